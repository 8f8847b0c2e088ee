/-
  The contract of impl.decRead: the number that a text tells. Conditions: the text has a number's parts, and is no longer than 2 to the 20; the library's variable MaxLen holds an int.
-/
import Derived.Test.YtjjpdoabagnmoaaGreatDoorReadP
import Derived.Test.YtjjpdoabagnmoaaGreatDoorReadV
import Derived.Test.YtjjpdoabagnmoaaGreatDoorNat1
import Derived.Shelf.Strings.IndexAnyAll
namespace Go.Proofs.YtjjpdoabagnmoaaGreatDoor
open Go.RowKit
set_option linter.unusedVariables false
set_option linter.unusedSimpArgs false

/-- the library's variable MaxLen holds an int -/
def MaxCell (w : World) : Prop := ∃ m : Int, w.cell? ⟨0, 0, none⟩ = some (.int .i64 m)
theorem MaxCell.below {w w' : World} (h : MaxCell w) (hb : Below w.heap.size w w') : MaxCell w' := by
  obtain ⟨m, hm⟩ := h
  obtain ⟨c, -⟩ := bcell hb
  exact ⟨m, by rw [c _ _ (Lib.lt_of_cell hm)]; exact hm⟩
theorem max_of {w : World} (h : w.ShapedOpen Tryz.prog) : MaxCell w := Tryz.laysM145.s1_3 w h
theorem trimLeft_to (t T : ByteArray) (l : List UInt8) (w : World) (ht : bs t = l) (hr : Lib.trimLeftS l [43, 45] = bs T) :
    Calls Tryz.prog 34 #[.string t, .string ⟨#[43, 45]⟩] w fun e w' => e = .returned (.string T) ∧ Below w.heap.size w w' := by
  subst ht
  refine (Any.strings_TrimLeft_laid Tryz.lays161 (by kernel_rfl) t ⟨#[43, 45]⟩ w (by decide) (ascii_of_all (by decide))).mono ?_
  rintro e w' ⟨rfl, hb⟩
  refine ⟨?_, hb⟩
  show Ending.returned (Value.string (ofL (Lib.trimLeftS (bs t) [43, 45]))) = _
  rw [hr, ofL_bs]
theorem indexAny_to (t : ByteArray) (l : List UInt8) (k : Int) (w : World) (ht : bs t = l) (hs : t.size < 4294967281) (ha : ∀ (j : Nat) c, l[j]? = some c → c.toNat < 128) (hk : Lib.indexAny l [101, 69] = k) :
    Calls Tryz.prog 74 #[.string t, .string ⟨#[101, 69]⟩] w fun e w' => e = .returned (.int .i64 k) ∧ Below w.heap.size w w' := by
  subst ht hk
  exact Any.strings_IndexAny_laid Tryz.lays153 (by kernel_rfl) t ⟨#[101, 69]⟩ w hs (by decide) ha (ascii_of_all (by decide))
theorem cut_to (t : ByteArray) (l d1 d2 : List UInt8) (w : World) (hM : MaxCell w) (ht : bs t = l) (hs : t.size < 4294967281) (h1 : (Lib.cut l [46]).1 = d1) (h2 : (Lib.cut l [46]).2.1 = d2) :
    Calls Tryz.prog 76 #[.string t, .string ⟨#[46]⟩] w fun e w' => ∃ f : Bool, e = .returned (.tuple #[.string (ofL d1), .string (ofL d2), .bool f]) ∧ Below w.heap.size w w' := by
  obtain ⟨m, hm⟩ := hM
  subst ht h1 h2
  refine (Tryz.strings_Cut t ⟨#[46]⟩ m w hs hm).mono ?_
  rintro e w' ⟨rfl, n, rfl⟩
  exact ⟨_, rfl, below_drewN (Below.refl _ _) n⟩
theorem trimNat_to (t : ByteArray) (l : List UInt8) (w : World) (ht : bs t = l) (hl : l.all isDig = true) :
    Calls Tryz.prog 75 #[.string t] w fun e w' => e = .returned (.string (ofL (dec (val l)))) ∧ Below w.heap.size w w' := by
  subst ht
  refine (trimNat_any t w).mono ?_
  rintro e w' ⟨rfl, rfl⟩
  exact ⟨by rw [trimZ_dec _ hl], Below.refl _ _⟩
theorem atoi_to (t : ByteArray) (V : Nat) (w : World) (ht : t = ofL (dec V)) (h : V ≤ 1000000000000000000) :
    Calls Tryz.prog 52 #[.string t] w fun e w' => e = .returned (.tuple #[.int .i64 (V : Int), .nilIface]) ∧ Below w.heap.size w w' := by
  subst ht
  exact atoi_any V w h
theorem head_neg {s : ByteArray} {sg b d1 d2 ex : List UInt8} (hl : bs s = sg ++ (b ++ ex)) (h1 : IsSg sg) (h2 : IsBody b d1 d2) : ∃ h : 0 < s.size, ((s[0].toNat : Int) == 45) = decide (sg = [45]) := by
  obtain ⟨h0, h⟩ := first_byte hl h1 h2
  refine ⟨h0, ?_⟩
  rcases h with ⟨rfl, -, h⟩ | ⟨rfl, h⟩ | ⟨rfl, h⟩
  · rw [h]; rfl
  · rw [h]; rfl
  · rw [h]; rfl

set_option maxRecDepth 10000 in
set_option maxHeartbeats 400000 in
theorem decRead_plain (s : ByteArray) (sg b d1 d2 : List UInt8) (sg2 d3 : List UInt8) (hev : exV sg2 d3 = 0) (w : World) (hM : MaxCell w) (hs : s.size ≤ 1048576) (hl : bs s = sg ++ (b ++ [])) (h1 : IsSg sg) (h2 : IsBody b d1 d2) :
    Calls Tryz.prog 44 #[.string s] w fun e w' => e = .returned (readV sg d1 d2 sg2 d3) ∧ Below w.heap.size w w' := by
  obtain ⟨n', u, y', c, hV, -, -, -⟩ := formV_lit (decide (sg = [45])) (val (d1 ++ d2)) (exV sg2 d3 - (d2.length : Int))
  obtain ⟨h0, hneg⟩ := head_neg hl h1 h2
  have hlen := congrArg List.length hl
  rw [bs_length, List.length_append, List.length_append] at hlen
  obtain ⟨hda, hdn, hdl⟩ := body_digs h2
  have hdl2 := hdl
  rw [List.length_append] at hdl2
  have hd2b : d2.length ≤ 1048576 := by omega
  have hex := exV_bound sg2 d3
  obtain ⟨neg, hng⟩ : ∃ neg, decide (sg = [45]) = neg := ⟨_, rfl⟩
  rw [hng] at hneg hV
  have hN := Lib.hid (fun (w : World) (t : ByteArray) (x : Int) (ht : bs t = d1 ++ d2) (hx : x = exV sg2 d3 - (d2.length : Int)) => by
    have hts : t.size ≤ 1073741824 := by rw [← bs_length, ht]; omega
    have := normal_any neg t x w (by rw [ht]; exact hda) hts (by omega) (by omega)
    rw [ht, hx, hV, ← hx] at this
    exact this : ∀ (w : World) (t : ByteArray) (x : Int), bs t = d1 ++ d2 → x = exV sg2 d3 - (d2.length : Int) → Calls Tryz.prog 47 #[.bool neg, .string t, .int .i64 x] w fun e w' => e = .returned (.tuple #[.agg #[.bool n', .string u, .int .i64 y'], .int .i64 c]) ∧ Below w.heap.size w w')
  have s1 := size_ofL d1
  have s2 := size_ofL d2
  have hno : ¬ (9223372036854775807 < d1.length + d2.length) := by omega
  have HT := Lib.hid (show bs (ofL d1 ++ ofL d2) = d1 ++ d2 by rw [bs_app, bs_ofL, bs_ofL])
  unfold readV
  rw [hng, hV]
  clear hng
  rw [List.append_nil] at hl
  have HL := Lib.hid hl
  have HTL := Lib.hid (trimLeft_sg (r := b) h1 (by have := head_body h2 []; rwa [List.append_nil] at this))
  have HB := Lib.hid (bs_ofL b)
  have hbs := size_ofL b
  have HBS := Lib.hid (show (ofL b).size < 4294967281 by omega)
  have HIA := Lib.hid (anyE_none h2)
  have HAS := Lib.hid (fun (j : Nat) (c : UInt8) (h : b[j]? = some c) => ascii_body h2 c (List.mem_of_getElem? h))
  have HC := Lib.hid (cut_body h2)
  have HEV := Lib.hid hev
  clear hV hl hda hdn h1 h2 hbs hev hlen
  go_enter Tryz.func44, Tryz.ntmps44
  go_wp2_with fail
  obtain ⟨w0, hw0, hz0, hv0, hc0, hf0⟩ := one_laid w false ⟨#[]⟩ 0
  rw [hw0]
  have hm0 : MaxCell w0 := hM.below hv0
  clear hw0
  refine (trimLeft_to s (ofL b) _ _ HL.out HTL.out).mono ?_
  rintro e w1 ⟨rfl, hb1⟩
  obtain ⟨hz1, hc1, hf1⟩ := one_kept hb1 hz0 hc0 hf0
  have hv1 := hv0.trans (hb1.mono hv0.size)
  have hm1 := MaxCell.below hm0 hb1
  clear hb1 hz0 hc0 hf0 hv0 hm0
  go_wp2_with fail
  refine (indexAny_to _ b (-1) _ HB.out HBS.out HAS.out HIA.out).mono ?_
  rintro e w2 ⟨rfl, hb2⟩
  obtain ⟨hz2, hc2, hf2⟩ := one_kept hb2 hz1 hc1 hf1
  have hv2 := hv1.trans (hb2.mono hv1.size)
  have hm2 := MaxCell.below hm1 hb2
  clear hb2 hz1 hc1 hf1 hv1 hm1
  go_wp2_with fail
  refine (cut_to _ b d1 d2 _ (by assumption) (by first | exact HB.out | rfl) (by first | exact HBS.out | (rw [size_ofL]; omega)) HC.out.1 HC.out.2).mono ?_
  rintro e w3 ⟨f, rfl, hb3⟩
  obtain ⟨hz3, hc3, hf3⟩ := one_kept hb3 hz2 hc2 hf2
  have hv3 := hv2.trans (hb3.mono hv2.size)
  have hm3 := MaxCell.below hm2 hb3
  clear hb3 hz2 hc2 hf2 hv2 hm2
  go_wp2_with fail
  refine (hN.out _ _ _ HT.out (by have := HEV.out; omega)).mono ?_
  rintro e w4 ⟨rfl, hb4⟩
  obtain ⟨hz4, hc4, hf4⟩ := one_kept hb4 hz3 hc3 hf3
  have hv4 := hv3.trans (hb4.mono hv3.size)
  have hm4 := MaxCell.below hm3 hb4
  clear hb4 hz3 hc3 hf3 hv3 hm3
  go_wp2
  refine bodyPost_ret (v := .tuple #[.agg #[.bool n', .string u, .int .i64 y'], .int .i64 c]) (by simp [results, Tryz.results44, go_sem, *]) rfl ⟨rfl, ?_⟩
  exact set_three hv4 (Nat.le_refl w.heap.size) _ _ _

set_option maxRecDepth 10000 in
set_option maxHeartbeats 400000 in
theorem decRead_ps (s : ByteArray) (sg b d1 d2 sg2 d3 : List UInt8) (ce : UInt8) (w : World) (hM : MaxCell w) (hs : s.size ≤ 1048576) (hl : bs s = sg ++ (b ++ (ce :: (sg2 ++ d3)))) (h1 : IsSg sg) (h2 : IsBody b d1 d2) (hce : ce = 101 ∨ ce = 69) (hs2 : IsSg sg2) (hd3 : d3.all isDig = true) (hd3n : d3 ≠ []) (hmi : decide (sg2 = [45]) = false) (hsh : val d3 ≤ 9999) :
    Calls Tryz.prog 44 #[.string s] w fun e w' => e = .returned (readV sg d1 d2 sg2 d3) ∧ Below w.heap.size w w' := by
  obtain ⟨n', u, y', c, hV, -, -, -⟩ := formV_lit (decide (sg = [45])) (val (d1 ++ d2)) (exV sg2 d3 - (d2.length : Int))
  obtain ⟨h0, hneg⟩ := head_neg hl h1 h2
  have hlen := congrArg List.length hl
  rw [bs_length, List.length_append, List.length_append] at hlen
  obtain ⟨hda, hdn, hdl⟩ := body_digs h2
  have hdl2 := hdl
  rw [List.length_append] at hdl2
  have hd2b : d2.length ≤ 1048576 := by omega
  have hex := exV_bound sg2 d3
  obtain ⟨neg, hng⟩ : ∃ neg, decide (sg = [45]) = neg := ⟨_, rfl⟩
  rw [hng] at hneg hV
  have hN := Lib.hid (fun (w : World) (t : ByteArray) (x : Int) (ht : bs t = d1 ++ d2) (hx : x = exV sg2 d3 - (d2.length : Int)) => by
    have hts : t.size ≤ 1073741824 := by rw [← bs_length, ht]; omega
    have := normal_any neg t x w (by rw [ht]; exact hda) hts (by omega) (by omega)
    rw [ht, hx, hV, ← hx] at this
    exact this : ∀ (w : World) (t : ByteArray) (x : Int), bs t = d1 ++ d2 → x = exV sg2 d3 - (d2.length : Int) → Calls Tryz.prog 47 #[.bool neg, .string t, .int .i64 x] w fun e w' => e = .returned (.tuple #[.agg #[.bool n', .string u, .int .i64 y'], .int .i64 c]) ∧ Below w.heap.size w w')
  have s1 := size_ofL d1
  have s2 := size_ofL d2
  have hno : ¬ (9223372036854775807 < d1.length + d2.length) := by omega
  have HT := Lib.hid (show bs (ofL d1 ++ ofL d2) = d1 ++ d2 by rw [bs_app, bs_ofL, bs_ofL])
  unfold readV
  rw [hng, hV]
  clear hng
  have HL := Lib.hid hl
  have HTL := Lib.hid (trimLeft_sg h1 (head_body h2 (ce :: (sg2 ++ d3))))
  have hbl : (ofL (b ++ (ce :: (sg2 ++ d3)))).size = b.length + 1 + (sg2 ++ d3).length := by rw [size_ofL, List.length_append, List.length_cons]; omega
  obtain ⟨U, hU⟩ : ∃ U, ofL (b ++ (ce :: (sg2 ++ d3))) = U := ⟨_, rfl⟩
  have hUb : bs U = b ++ (ce :: (sg2 ++ d3)) := by rw [← hU, bs_ofL]
  obtain ⟨B, hB⟩ : ∃ B, b.length = B := ⟨_, rfl⟩
  have hBU : B + 1 ≤ U.size := by rw [← hU, hbl]; omega
  have hBU2 : (B : Int) + 1 ≤ (U.size : Int) := by omega
  have hBU3 : (B : Int) ≤ (U.size : Int) := by omega
  have hUs : U.size ≤ 1048576 := by rw [← hU, hbl]; rw [List.length_cons] at hlen; omega
  have HUS := Lib.hid (show U.size < 4294967281 by omega)
  have HUB := Lib.hid hUb
  have HIA := Lib.hid (show Lib.indexAny (b ++ (ce :: (sg2 ++ d3))) [101, 69] = (B : Int) by rw [anyE_at h2 hce, hB])
  have HAS := Lib.hid (ascii_both h2 (.inr ⟨ce, hce, rfl, hs2, hd3, hd3n⟩))
  have hVb : bs (U.extract (B + 1) U.size) = sg2 ++ d3 := by rw [bs_ext, hUb, ← hB, ← List.drop_drop, List.drop_left]; rfl
  obtain ⟨V, hVV⟩ : ∃ V, U.extract (B + 1) U.size = V := ⟨_, rfl⟩
  rw [hVV] at hVb
  have HVB := Lib.hid hVb
  have HTL2 := Lib.hid (trimLeft_sg hs2 (head_digs hd3))
  have HD3 := Lib.hid (bs_ofL d3)
  have HDA := Lib.hid hd3
  have hdl3 := dec_len (val d3)
  have hd4 := size_ofL (dec (val d3))
  have hfr : bs (U.extract 0 B) = b := by rw [bs_front, hUb, ← hB, List.take_left]
  have HB := Lib.hid hfr
  have HBS := Lib.hid (show (U.extract 0 B).size < 4294967281 by rw [← bs_length, hfr]; omega)
  have HC := Lib.hid (cut_body h2)
  have hV0 : 0 < V.size := by
    rw [← bs_length, hVb, List.length_append]
    have := List.length_pos_iff.2 hd3n
    omega
  have hm45 : ((V[0].toNat : Int) == 45) = false := by
    have e := bs_drop V 0 hV0
    rw [List.drop_zero, hVb] at e
    have hx : decide (V[0] = 45) = false := by
      rw [← hmi]
      rcases hs2 with rfl | rfl | rfl
      · cases d3 with
        | nil => exact absurd rfl hd3n
        | cons c t =>
          simp only [List.nil_append, List.cons.injEq] at e
          rw [← e.1]
          have := (head_digs hd3 c t rfl).2
          simp [this]
      · simp only [List.cons_append, List.nil_append, List.cons.injEq] at e
        rw [← e.1]; rfl
      · simp only [List.cons_append, List.nil_append, List.cons.injEq] at e
        rw [← e.1]; rfl
    rw [← hx]
    rw [Bool.eq_iff_iff, beq_iff_eq, decide_eq_true_iff]
    exact ⟨fun h => u8_eq (d := 45) h, fun h => by rw [h]; rfl⟩
  have hlen4 : (dec (val d3)).length ≤ 4 := by
    exact dec_len_le 4 _ (by decide) (by omega)
  have hev : exV sg2 d3 = ((val d3 : Nat) : Int) := by
    unfold exV
    rw [show (if sg2 = [45] then -((min 9999 (val d3) : Nat) : Int) else ((min 9999 (val d3) : Nat) : Int)) = if decide (sg2 = [45]) = true then -((min 9999 (val d3) : Nat) : Int) else ((min 9999 (val d3) : Nat) : Int) by simp, hmi]
    simp only [if_true, if_false, Bool.false_eq_true]
    omega
  have HTL := Lib.hid (show Lib.trimLeftS (sg ++ (b ++ (ce :: (sg2 ++ d3)))) [43, 45] = bs U by rw [hUb]; exact HTL.out)
  have HUO := Lib.hid (show ofL (bs U) = U from ofL_bs U)
  clear hV hl hda hdn h1 h2 hU hUb hVb hfr hs2 hd3 hd3n hmi hB hbl hlen
  have HEV := Lib.hid hev
  clear hev
  go_enter Tryz.func44, Tryz.ntmps44
  go_wp2_with fail
  obtain ⟨w0, hw0, hz0, hv0, hc0, hf0⟩ := one_laid w false ⟨#[]⟩ 0
  rw [hw0]
  have hm0 : MaxCell w0 := hM.below hv0
  clear hw0
  refine (trimLeft_to s U _ _ HL.out HTL.out).mono ?_
  rintro e w1 ⟨rfl, hb1⟩
  obtain ⟨hz1, hc1, hf1⟩ := one_kept hb1 hz0 hc0 hf0
  have hv1 := hv0.trans (hb1.mono hv0.size)
  have hm1 := MaxCell.below hm0 hb1
  clear hb1 hz0 hc0 hf0 hv0 hm0
  go_wp2_with fail
  refine (indexAny_to _ _ (B : Int) _ HUB.out HUS.out HAS.out HIA.out).mono ?_
  rintro e w2 ⟨rfl, hb2⟩
  obtain ⟨hz2, hc2, hf2⟩ := one_kept hb2 hz1 hc1 hf1
  have hv2 := hv1.trans (hb2.mono hv1.size)
  have hm2 := MaxCell.below hm1 hb2
  clear hb2 hz1 hc1 hf1 hv1 hm1
  go_wp2_with fail
  refine (trimLeft_to V (ofL d3) _ _ HVB.out HTL2.out).mono ?_
  rintro e w3 ⟨rfl, hb3⟩
  obtain ⟨hz3, hc3, hf3⟩ := one_kept hb3 hz2 hc2 hf2
  have hv3 := hv2.trans (hb3.mono hv2.size)
  have hm3 := MaxCell.below hm2 hb3
  clear hb3 hz2 hc2 hf2 hv2 hm2
  go_wp2_with fail
  refine (trimNat_to _ _ _ HD3.out HDA.out).mono ?_
  rintro e w4 ⟨rfl, hb4⟩
  obtain ⟨hz4, hc4, hf4⟩ := one_kept hb4 hz3 hc3 hf3
  have hv4 := hv3.trans (hb4.mono hv3.size)
  have hm4 := MaxCell.below hm3 hb4
  clear hb4 hz3 hc3 hf3 hv3 hm3
  go_wp2_with fail
  refine (atoi_to _ _ _ rfl (by omega)).mono ?_
  rintro e w5 ⟨rfl, hb5⟩
  obtain ⟨hz5, hc5, hf5⟩ := one_kept hb5 hz4 hc4 hf4
  have hv5 := hv4.trans (hb5.mono hv4.size)
  have hm5 := MaxCell.below hm4 hb5
  clear hb5 hz4 hc4 hf4 hv4 hm4
  go_wp2_with fail
  refine (cut_to _ b d1 d2 _ (by assumption) (by first | exact HB.out | rfl) (by first | exact HBS.out | (rw [size_ofL]; omega)) HC.out.1 HC.out.2).mono ?_
  rintro e w6 ⟨f, rfl, hb6⟩
  obtain ⟨hz6, hc6, hf6⟩ := one_kept hb6 hz5 hc5 hf5
  have hv6 := hv5.trans (hb6.mono hv5.size)
  have hm6 := MaxCell.below hm5 hb6
  clear hb6 hz5 hc5 hf5 hv5 hm5
  go_wp2_with fail
  refine (hN.out _ _ _ HT.out (by have := HEV.out; omega)).mono ?_
  rintro e w7 ⟨rfl, hb7⟩
  obtain ⟨hz7, hc7, hf7⟩ := one_kept hb7 hz6 hc6 hf6
  have hv7 := hv6.trans (hb7.mono hv6.size)
  have hm7 := MaxCell.below hm6 hb7
  clear hb7 hz6 hc6 hf6 hv6 hm6
  go_wp2
  refine bodyPost_ret (v := .tuple #[.agg #[.bool n', .string u, .int .i64 y'], .int .i64 c]) (by simp [results, Tryz.results44, go_sem, *]) rfl ⟨rfl, ?_⟩
  exact set_three hv7 (Nat.le_refl w.heap.size) _ _ _

set_option maxRecDepth 10000 in
set_option maxHeartbeats 400000 in
theorem decRead_pl (s : ByteArray) (sg b d1 d2 sg2 d3 : List UInt8) (ce : UInt8) (w : World) (hM : MaxCell w) (hs : s.size ≤ 1048576) (hl : bs s = sg ++ (b ++ (ce :: (sg2 ++ d3)))) (h1 : IsSg sg) (h2 : IsBody b d1 d2) (hce : ce = 101 ∨ ce = 69) (hs2 : IsSg sg2) (hd3 : d3.all isDig = true) (hd3n : d3 ≠ []) (hmi : decide (sg2 = [45]) = false) (hsh : 9999 < val d3) :
    Calls Tryz.prog 44 #[.string s] w fun e w' => e = .returned (readV sg d1 d2 sg2 d3) ∧ Below w.heap.size w w' := by
  obtain ⟨n', u, y', c, hV, -, -, -⟩ := formV_lit (decide (sg = [45])) (val (d1 ++ d2)) (exV sg2 d3 - (d2.length : Int))
  obtain ⟨h0, hneg⟩ := head_neg hl h1 h2
  have hlen := congrArg List.length hl
  rw [bs_length, List.length_append, List.length_append] at hlen
  obtain ⟨hda, hdn, hdl⟩ := body_digs h2
  have hdl2 := hdl
  rw [List.length_append] at hdl2
  have hd2b : d2.length ≤ 1048576 := by omega
  have hex := exV_bound sg2 d3
  obtain ⟨neg, hng⟩ : ∃ neg, decide (sg = [45]) = neg := ⟨_, rfl⟩
  rw [hng] at hneg hV
  have hN := Lib.hid (fun (w : World) (t : ByteArray) (x : Int) (ht : bs t = d1 ++ d2) (hx : x = exV sg2 d3 - (d2.length : Int)) => by
    have hts : t.size ≤ 1073741824 := by rw [← bs_length, ht]; omega
    have := normal_any neg t x w (by rw [ht]; exact hda) hts (by omega) (by omega)
    rw [ht, hx, hV, ← hx] at this
    exact this : ∀ (w : World) (t : ByteArray) (x : Int), bs t = d1 ++ d2 → x = exV sg2 d3 - (d2.length : Int) → Calls Tryz.prog 47 #[.bool neg, .string t, .int .i64 x] w fun e w' => e = .returned (.tuple #[.agg #[.bool n', .string u, .int .i64 y'], .int .i64 c]) ∧ Below w.heap.size w w')
  have s1 := size_ofL d1
  have s2 := size_ofL d2
  have hno : ¬ (9223372036854775807 < d1.length + d2.length) := by omega
  have HT := Lib.hid (show bs (ofL d1 ++ ofL d2) = d1 ++ d2 by rw [bs_app, bs_ofL, bs_ofL])
  unfold readV
  rw [hng, hV]
  clear hng
  have HL := Lib.hid hl
  have HTL := Lib.hid (trimLeft_sg h1 (head_body h2 (ce :: (sg2 ++ d3))))
  have hbl : (ofL (b ++ (ce :: (sg2 ++ d3)))).size = b.length + 1 + (sg2 ++ d3).length := by rw [size_ofL, List.length_append, List.length_cons]; omega
  obtain ⟨U, hU⟩ : ∃ U, ofL (b ++ (ce :: (sg2 ++ d3))) = U := ⟨_, rfl⟩
  have hUb : bs U = b ++ (ce :: (sg2 ++ d3)) := by rw [← hU, bs_ofL]
  obtain ⟨B, hB⟩ : ∃ B, b.length = B := ⟨_, rfl⟩
  have hBU : B + 1 ≤ U.size := by rw [← hU, hbl]; omega
  have hBU2 : (B : Int) + 1 ≤ (U.size : Int) := by omega
  have hBU3 : (B : Int) ≤ (U.size : Int) := by omega
  have hUs : U.size ≤ 1048576 := by rw [← hU, hbl]; rw [List.length_cons] at hlen; omega
  have HUS := Lib.hid (show U.size < 4294967281 by omega)
  have HUB := Lib.hid hUb
  have HIA := Lib.hid (show Lib.indexAny (b ++ (ce :: (sg2 ++ d3))) [101, 69] = (B : Int) by rw [anyE_at h2 hce, hB])
  have HAS := Lib.hid (ascii_both h2 (.inr ⟨ce, hce, rfl, hs2, hd3, hd3n⟩))
  have hVb : bs (U.extract (B + 1) U.size) = sg2 ++ d3 := by rw [bs_ext, hUb, ← hB, ← List.drop_drop, List.drop_left]; rfl
  obtain ⟨V, hVV⟩ : ∃ V, U.extract (B + 1) U.size = V := ⟨_, rfl⟩
  rw [hVV] at hVb
  have HVB := Lib.hid hVb
  have HTL2 := Lib.hid (trimLeft_sg hs2 (head_digs hd3))
  have HD3 := Lib.hid (bs_ofL d3)
  have HDA := Lib.hid hd3
  have hdl3 := dec_len (val d3)
  have hd4 := size_ofL (dec (val d3))
  have hfr : bs (U.extract 0 B) = b := by rw [bs_front, hUb, ← hB, List.take_left]
  have HB := Lib.hid hfr
  have HBS := Lib.hid (show (U.extract 0 B).size < 4294967281 by rw [← bs_length, hfr]; omega)
  have HC := Lib.hid (cut_body h2)
  have hV0 : 0 < V.size := by
    rw [← bs_length, hVb, List.length_append]
    have := List.length_pos_iff.2 hd3n
    omega
  have hm45 : ((V[0].toNat : Int) == 45) = false := by
    have e := bs_drop V 0 hV0
    rw [List.drop_zero, hVb] at e
    have hx : decide (V[0] = 45) = false := by
      rw [← hmi]
      rcases hs2 with rfl | rfl | rfl
      · cases d3 with
        | nil => exact absurd rfl hd3n
        | cons c t =>
          simp only [List.nil_append, List.cons.injEq] at e
          rw [← e.1]
          have := (head_digs hd3 c t rfl).2
          simp [this]
      · simp only [List.cons_append, List.nil_append, List.cons.injEq] at e
        rw [← e.1]; rfl
      · simp only [List.cons_append, List.nil_append, List.cons.injEq] at e
        rw [← e.1]; rfl
    rw [← hx]
    rw [Bool.eq_iff_iff, beq_iff_eq, decide_eq_true_iff]
    exact ⟨fun h => u8_eq (d := 45) h, fun h => by rw [h]; rfl⟩
  have hlen4 : 4 < (dec (val d3)).length := by
    apply Classical.byContradiction; intro hn
    have h5 := dec_lt (val d3)
    have h6 := Nat.pow_le_pow_right (n := 10) (by decide) (show (dec (val d3)).length ≤ 4 by omega)
    omega
  have hev : exV sg2 d3 = 9999 := by
    unfold exV
    rw [show (if sg2 = [45] then -((min 9999 (val d3) : Nat) : Int) else ((min 9999 (val d3) : Nat) : Int)) = if decide (sg2 = [45]) = true then -((min 9999 (val d3) : Nat) : Int) else ((min 9999 (val d3) : Nat) : Int) by simp, hmi]
    simp only [if_true, if_false, Bool.false_eq_true]
    omega
  have HTL := Lib.hid (show Lib.trimLeftS (sg ++ (b ++ (ce :: (sg2 ++ d3)))) [43, 45] = bs U by rw [hUb]; exact HTL.out)
  have HUO := Lib.hid (show ofL (bs U) = U from ofL_bs U)
  clear hV hl hda hdn h1 h2 hU hUb hVb hfr hs2 hd3 hd3n hmi hB hbl hlen
  have HEV := Lib.hid hev
  clear hev
  go_enter Tryz.func44, Tryz.ntmps44
  go_wp2_with fail
  obtain ⟨w0, hw0, hz0, hv0, hc0, hf0⟩ := one_laid w false ⟨#[]⟩ 0
  rw [hw0]
  have hm0 : MaxCell w0 := hM.below hv0
  clear hw0
  refine (trimLeft_to s U _ _ HL.out HTL.out).mono ?_
  rintro e w1 ⟨rfl, hb1⟩
  obtain ⟨hz1, hc1, hf1⟩ := one_kept hb1 hz0 hc0 hf0
  have hv1 := hv0.trans (hb1.mono hv0.size)
  have hm1 := MaxCell.below hm0 hb1
  clear hb1 hz0 hc0 hf0 hv0 hm0
  go_wp2_with fail
  refine (indexAny_to _ _ (B : Int) _ HUB.out HUS.out HAS.out HIA.out).mono ?_
  rintro e w2 ⟨rfl, hb2⟩
  obtain ⟨hz2, hc2, hf2⟩ := one_kept hb2 hz1 hc1 hf1
  have hv2 := hv1.trans (hb2.mono hv1.size)
  have hm2 := MaxCell.below hm1 hb2
  clear hb2 hz1 hc1 hf1 hv1 hm1
  go_wp2_with fail
  refine (trimLeft_to V (ofL d3) _ _ HVB.out HTL2.out).mono ?_
  rintro e w3 ⟨rfl, hb3⟩
  obtain ⟨hz3, hc3, hf3⟩ := one_kept hb3 hz2 hc2 hf2
  have hv3 := hv2.trans (hb3.mono hv2.size)
  have hm3 := MaxCell.below hm2 hb3
  clear hb3 hz2 hc2 hf2 hv2 hm2
  go_wp2_with fail
  refine (trimNat_to _ _ _ HD3.out HDA.out).mono ?_
  rintro e w4 ⟨rfl, hb4⟩
  obtain ⟨hz4, hc4, hf4⟩ := one_kept hb4 hz3 hc3 hf3
  have hv4 := hv3.trans (hb4.mono hv3.size)
  have hm4 := MaxCell.below hm3 hb4
  clear hb4 hz3 hc3 hf3 hv3 hm3
  go_wp2_with fail
  refine (cut_to _ b d1 d2 _ (by assumption) (by first | exact HB.out | rfl) (by first | exact HBS.out | (rw [size_ofL]; omega)) HC.out.1 HC.out.2).mono ?_
  rintro e w5 ⟨f, rfl, hb5⟩
  obtain ⟨hz5, hc5, hf5⟩ := one_kept hb5 hz4 hc4 hf4
  have hv5 := hv4.trans (hb5.mono hv4.size)
  have hm5 := MaxCell.below hm4 hb5
  clear hb5 hz4 hc4 hf4 hv4 hm4
  go_wp2_with fail
  refine (hN.out _ _ _ HT.out (by have := HEV.out; omega)).mono ?_
  rintro e w6 ⟨rfl, hb6⟩
  obtain ⟨hz6, hc6, hf6⟩ := one_kept hb6 hz5 hc5 hf5
  have hv6 := hv5.trans (hb6.mono hv5.size)
  have hm6 := MaxCell.below hm5 hb6
  clear hb6 hz5 hc5 hf5 hv5 hm5
  go_wp2
  refine bodyPost_ret (v := .tuple #[.agg #[.bool n', .string u, .int .i64 y'], .int .i64 c]) (by simp [results, Tryz.results44, go_sem, *]) rfl ⟨rfl, ?_⟩
  exact set_three hv6 (Nat.le_refl w.heap.size) _ _ _

set_option maxRecDepth 10000 in
set_option maxHeartbeats 400000 in
theorem decRead_ms (s : ByteArray) (sg b d1 d2 sg2 d3 : List UInt8) (ce : UInt8) (w : World) (hM : MaxCell w) (hs : s.size ≤ 1048576) (hl : bs s = sg ++ (b ++ (ce :: (sg2 ++ d3)))) (h1 : IsSg sg) (h2 : IsBody b d1 d2) (hce : ce = 101 ∨ ce = 69) (hs2 : IsSg sg2) (hd3 : d3.all isDig = true) (hd3n : d3 ≠ []) (hmi : decide (sg2 = [45]) = true) (hsh : val d3 ≤ 9999) :
    Calls Tryz.prog 44 #[.string s] w fun e w' => e = .returned (readV sg d1 d2 sg2 d3) ∧ Below w.heap.size w w' := by
  obtain ⟨n', u, y', c, hV, -, -, -⟩ := formV_lit (decide (sg = [45])) (val (d1 ++ d2)) (exV sg2 d3 - (d2.length : Int))
  obtain ⟨h0, hneg⟩ := head_neg hl h1 h2
  have hlen := congrArg List.length hl
  rw [bs_length, List.length_append, List.length_append] at hlen
  obtain ⟨hda, hdn, hdl⟩ := body_digs h2
  have hdl2 := hdl
  rw [List.length_append] at hdl2
  have hd2b : d2.length ≤ 1048576 := by omega
  have hex := exV_bound sg2 d3
  obtain ⟨neg, hng⟩ : ∃ neg, decide (sg = [45]) = neg := ⟨_, rfl⟩
  rw [hng] at hneg hV
  have hN := Lib.hid (fun (w : World) (t : ByteArray) (x : Int) (ht : bs t = d1 ++ d2) (hx : x = exV sg2 d3 - (d2.length : Int)) => by
    have hts : t.size ≤ 1073741824 := by rw [← bs_length, ht]; omega
    have := normal_any neg t x w (by rw [ht]; exact hda) hts (by omega) (by omega)
    rw [ht, hx, hV, ← hx] at this
    exact this : ∀ (w : World) (t : ByteArray) (x : Int), bs t = d1 ++ d2 → x = exV sg2 d3 - (d2.length : Int) → Calls Tryz.prog 47 #[.bool neg, .string t, .int .i64 x] w fun e w' => e = .returned (.tuple #[.agg #[.bool n', .string u, .int .i64 y'], .int .i64 c]) ∧ Below w.heap.size w w')
  have s1 := size_ofL d1
  have s2 := size_ofL d2
  have hno : ¬ (9223372036854775807 < d1.length + d2.length) := by omega
  have HT := Lib.hid (show bs (ofL d1 ++ ofL d2) = d1 ++ d2 by rw [bs_app, bs_ofL, bs_ofL])
  unfold readV
  rw [hng, hV]
  clear hng
  have HL := Lib.hid hl
  have HTL := Lib.hid (trimLeft_sg h1 (head_body h2 (ce :: (sg2 ++ d3))))
  have hbl : (ofL (b ++ (ce :: (sg2 ++ d3)))).size = b.length + 1 + (sg2 ++ d3).length := by rw [size_ofL, List.length_append, List.length_cons]; omega
  obtain ⟨U, hU⟩ : ∃ U, ofL (b ++ (ce :: (sg2 ++ d3))) = U := ⟨_, rfl⟩
  have hUb : bs U = b ++ (ce :: (sg2 ++ d3)) := by rw [← hU, bs_ofL]
  obtain ⟨B, hB⟩ : ∃ B, b.length = B := ⟨_, rfl⟩
  have hBU : B + 1 ≤ U.size := by rw [← hU, hbl]; omega
  have hBU2 : (B : Int) + 1 ≤ (U.size : Int) := by omega
  have hBU3 : (B : Int) ≤ (U.size : Int) := by omega
  have hUs : U.size ≤ 1048576 := by rw [← hU, hbl]; rw [List.length_cons] at hlen; omega
  have HUS := Lib.hid (show U.size < 4294967281 by omega)
  have HUB := Lib.hid hUb
  have HIA := Lib.hid (show Lib.indexAny (b ++ (ce :: (sg2 ++ d3))) [101, 69] = (B : Int) by rw [anyE_at h2 hce, hB])
  have HAS := Lib.hid (ascii_both h2 (.inr ⟨ce, hce, rfl, hs2, hd3, hd3n⟩))
  have hVb : bs (U.extract (B + 1) U.size) = sg2 ++ d3 := by rw [bs_ext, hUb, ← hB, ← List.drop_drop, List.drop_left]; rfl
  obtain ⟨V, hVV⟩ : ∃ V, U.extract (B + 1) U.size = V := ⟨_, rfl⟩
  rw [hVV] at hVb
  have HVB := Lib.hid hVb
  have HTL2 := Lib.hid (trimLeft_sg hs2 (head_digs hd3))
  have HD3 := Lib.hid (bs_ofL d3)
  have HDA := Lib.hid hd3
  have hdl3 := dec_len (val d3)
  have hd4 := size_ofL (dec (val d3))
  have hfr : bs (U.extract 0 B) = b := by rw [bs_front, hUb, ← hB, List.take_left]
  have HB := Lib.hid hfr
  have HBS := Lib.hid (show (U.extract 0 B).size < 4294967281 by rw [← bs_length, hfr]; omega)
  have HC := Lib.hid (cut_body h2)
  have hV0 : 0 < V.size := by
    rw [← bs_length, hVb, List.length_append]
    have := List.length_pos_iff.2 hd3n
    omega
  have hm45 : ((V[0].toNat : Int) == 45) = true := by
    have e := bs_drop V 0 hV0
    rw [List.drop_zero, hVb] at e
    have hx : decide (V[0] = 45) = true := by
      rw [← hmi]
      rcases hs2 with rfl | rfl | rfl
      · cases d3 with
        | nil => exact absurd rfl hd3n
        | cons c t =>
          simp only [List.nil_append, List.cons.injEq] at e
          rw [← e.1]
          have := (head_digs hd3 c t rfl).2
          simp [this]
      · simp only [List.cons_append, List.nil_append, List.cons.injEq] at e
        rw [← e.1]; rfl
      · simp only [List.cons_append, List.nil_append, List.cons.injEq] at e
        rw [← e.1]; rfl
    rw [← hx]
    rw [Bool.eq_iff_iff, beq_iff_eq, decide_eq_true_iff]
    exact ⟨fun h => u8_eq (d := 45) h, fun h => by rw [h]; rfl⟩
  have hlen4 : (dec (val d3)).length ≤ 4 := by
    exact dec_len_le 4 _ (by decide) (by omega)
  have hev : exV sg2 d3 = -((val d3 : Nat) : Int) := by
    unfold exV
    rw [show (if sg2 = [45] then -((min 9999 (val d3) : Nat) : Int) else ((min 9999 (val d3) : Nat) : Int)) = if decide (sg2 = [45]) = true then -((min 9999 (val d3) : Nat) : Int) else ((min 9999 (val d3) : Nat) : Int) by simp, hmi]
    simp only [if_true, if_false, Bool.false_eq_true]
    omega
  have HTL := Lib.hid (show Lib.trimLeftS (sg ++ (b ++ (ce :: (sg2 ++ d3)))) [43, 45] = bs U by rw [hUb]; exact HTL.out)
  have HUO := Lib.hid (show ofL (bs U) = U from ofL_bs U)
  clear hV hl hda hdn h1 h2 hU hUb hVb hfr hs2 hd3 hd3n hmi hB hbl hlen
  have HEV := Lib.hid hev
  clear hev
  go_enter Tryz.func44, Tryz.ntmps44
  go_wp2_with fail
  obtain ⟨w0, hw0, hz0, hv0, hc0, hf0⟩ := one_laid w false ⟨#[]⟩ 0
  rw [hw0]
  have hm0 : MaxCell w0 := hM.below hv0
  clear hw0
  refine (trimLeft_to s U _ _ HL.out HTL.out).mono ?_
  rintro e w1 ⟨rfl, hb1⟩
  obtain ⟨hz1, hc1, hf1⟩ := one_kept hb1 hz0 hc0 hf0
  have hv1 := hv0.trans (hb1.mono hv0.size)
  have hm1 := MaxCell.below hm0 hb1
  clear hb1 hz0 hc0 hf0 hv0 hm0
  go_wp2_with fail
  refine (indexAny_to _ _ (B : Int) _ HUB.out HUS.out HAS.out HIA.out).mono ?_
  rintro e w2 ⟨rfl, hb2⟩
  obtain ⟨hz2, hc2, hf2⟩ := one_kept hb2 hz1 hc1 hf1
  have hv2 := hv1.trans (hb2.mono hv1.size)
  have hm2 := MaxCell.below hm1 hb2
  clear hb2 hz1 hc1 hf1 hv1 hm1
  go_wp2_with fail
  refine (trimLeft_to V (ofL d3) _ _ HVB.out HTL2.out).mono ?_
  rintro e w3 ⟨rfl, hb3⟩
  obtain ⟨hz3, hc3, hf3⟩ := one_kept hb3 hz2 hc2 hf2
  have hv3 := hv2.trans (hb3.mono hv2.size)
  have hm3 := MaxCell.below hm2 hb3
  clear hb3 hz2 hc2 hf2 hv2 hm2
  go_wp2_with fail
  refine (trimNat_to _ _ _ HD3.out HDA.out).mono ?_
  rintro e w4 ⟨rfl, hb4⟩
  obtain ⟨hz4, hc4, hf4⟩ := one_kept hb4 hz3 hc3 hf3
  have hv4 := hv3.trans (hb4.mono hv3.size)
  have hm4 := MaxCell.below hm3 hb4
  clear hb4 hz3 hc3 hf3 hv3 hm3
  go_wp2_with fail
  refine (atoi_to _ _ _ rfl (by omega)).mono ?_
  rintro e w5 ⟨rfl, hb5⟩
  obtain ⟨hz5, hc5, hf5⟩ := one_kept hb5 hz4 hc4 hf4
  have hv5 := hv4.trans (hb5.mono hv4.size)
  have hm5 := MaxCell.below hm4 hb5
  clear hb5 hz4 hc4 hf4 hv4 hm4
  go_wp2_with fail
  refine (cut_to _ b d1 d2 _ (by assumption) (by first | exact HB.out | rfl) (by first | exact HBS.out | (rw [size_ofL]; omega)) HC.out.1 HC.out.2).mono ?_
  rintro e w6 ⟨f, rfl, hb6⟩
  obtain ⟨hz6, hc6, hf6⟩ := one_kept hb6 hz5 hc5 hf5
  have hv6 := hv5.trans (hb6.mono hv5.size)
  have hm6 := MaxCell.below hm5 hb6
  clear hb6 hz5 hc5 hf5 hv5 hm5
  go_wp2_with fail
  refine (hN.out _ _ _ HT.out (by have := HEV.out; omega)).mono ?_
  rintro e w7 ⟨rfl, hb7⟩
  obtain ⟨hz7, hc7, hf7⟩ := one_kept hb7 hz6 hc6 hf6
  have hv7 := hv6.trans (hb7.mono hv6.size)
  have hm7 := MaxCell.below hm6 hb7
  clear hb7 hz6 hc6 hf6 hv6 hm6
  go_wp2
  refine bodyPost_ret (v := .tuple #[.agg #[.bool n', .string u, .int .i64 y'], .int .i64 c]) (by simp [results, Tryz.results44, go_sem, *]) rfl ⟨rfl, ?_⟩
  exact set_three hv7 (Nat.le_refl w.heap.size) _ _ _

set_option maxRecDepth 10000 in
set_option maxHeartbeats 400000 in
theorem decRead_ml (s : ByteArray) (sg b d1 d2 sg2 d3 : List UInt8) (ce : UInt8) (w : World) (hM : MaxCell w) (hs : s.size ≤ 1048576) (hl : bs s = sg ++ (b ++ (ce :: (sg2 ++ d3)))) (h1 : IsSg sg) (h2 : IsBody b d1 d2) (hce : ce = 101 ∨ ce = 69) (hs2 : IsSg sg2) (hd3 : d3.all isDig = true) (hd3n : d3 ≠ []) (hmi : decide (sg2 = [45]) = true) (hsh : 9999 < val d3) :
    Calls Tryz.prog 44 #[.string s] w fun e w' => e = .returned (readV sg d1 d2 sg2 d3) ∧ Below w.heap.size w w' := by
  obtain ⟨n', u, y', c, hV, -, -, -⟩ := formV_lit (decide (sg = [45])) (val (d1 ++ d2)) (exV sg2 d3 - (d2.length : Int))
  obtain ⟨h0, hneg⟩ := head_neg hl h1 h2
  have hlen := congrArg List.length hl
  rw [bs_length, List.length_append, List.length_append] at hlen
  obtain ⟨hda, hdn, hdl⟩ := body_digs h2
  have hdl2 := hdl
  rw [List.length_append] at hdl2
  have hd2b : d2.length ≤ 1048576 := by omega
  have hex := exV_bound sg2 d3
  obtain ⟨neg, hng⟩ : ∃ neg, decide (sg = [45]) = neg := ⟨_, rfl⟩
  rw [hng] at hneg hV
  have hN := Lib.hid (fun (w : World) (t : ByteArray) (x : Int) (ht : bs t = d1 ++ d2) (hx : x = exV sg2 d3 - (d2.length : Int)) => by
    have hts : t.size ≤ 1073741824 := by rw [← bs_length, ht]; omega
    have := normal_any neg t x w (by rw [ht]; exact hda) hts (by omega) (by omega)
    rw [ht, hx, hV, ← hx] at this
    exact this : ∀ (w : World) (t : ByteArray) (x : Int), bs t = d1 ++ d2 → x = exV sg2 d3 - (d2.length : Int) → Calls Tryz.prog 47 #[.bool neg, .string t, .int .i64 x] w fun e w' => e = .returned (.tuple #[.agg #[.bool n', .string u, .int .i64 y'], .int .i64 c]) ∧ Below w.heap.size w w')
  have s1 := size_ofL d1
  have s2 := size_ofL d2
  have hno : ¬ (9223372036854775807 < d1.length + d2.length) := by omega
  have HT := Lib.hid (show bs (ofL d1 ++ ofL d2) = d1 ++ d2 by rw [bs_app, bs_ofL, bs_ofL])
  unfold readV
  rw [hng, hV]
  clear hng
  have HL := Lib.hid hl
  have HTL := Lib.hid (trimLeft_sg h1 (head_body h2 (ce :: (sg2 ++ d3))))
  have hbl : (ofL (b ++ (ce :: (sg2 ++ d3)))).size = b.length + 1 + (sg2 ++ d3).length := by rw [size_ofL, List.length_append, List.length_cons]; omega
  obtain ⟨U, hU⟩ : ∃ U, ofL (b ++ (ce :: (sg2 ++ d3))) = U := ⟨_, rfl⟩
  have hUb : bs U = b ++ (ce :: (sg2 ++ d3)) := by rw [← hU, bs_ofL]
  obtain ⟨B, hB⟩ : ∃ B, b.length = B := ⟨_, rfl⟩
  have hBU : B + 1 ≤ U.size := by rw [← hU, hbl]; omega
  have hBU2 : (B : Int) + 1 ≤ (U.size : Int) := by omega
  have hBU3 : (B : Int) ≤ (U.size : Int) := by omega
  have hUs : U.size ≤ 1048576 := by rw [← hU, hbl]; rw [List.length_cons] at hlen; omega
  have HUS := Lib.hid (show U.size < 4294967281 by omega)
  have HUB := Lib.hid hUb
  have HIA := Lib.hid (show Lib.indexAny (b ++ (ce :: (sg2 ++ d3))) [101, 69] = (B : Int) by rw [anyE_at h2 hce, hB])
  have HAS := Lib.hid (ascii_both h2 (.inr ⟨ce, hce, rfl, hs2, hd3, hd3n⟩))
  have hVb : bs (U.extract (B + 1) U.size) = sg2 ++ d3 := by rw [bs_ext, hUb, ← hB, ← List.drop_drop, List.drop_left]; rfl
  obtain ⟨V, hVV⟩ : ∃ V, U.extract (B + 1) U.size = V := ⟨_, rfl⟩
  rw [hVV] at hVb
  have HVB := Lib.hid hVb
  have HTL2 := Lib.hid (trimLeft_sg hs2 (head_digs hd3))
  have HD3 := Lib.hid (bs_ofL d3)
  have HDA := Lib.hid hd3
  have hdl3 := dec_len (val d3)
  have hd4 := size_ofL (dec (val d3))
  have hfr : bs (U.extract 0 B) = b := by rw [bs_front, hUb, ← hB, List.take_left]
  have HB := Lib.hid hfr
  have HBS := Lib.hid (show (U.extract 0 B).size < 4294967281 by rw [← bs_length, hfr]; omega)
  have HC := Lib.hid (cut_body h2)
  have hV0 : 0 < V.size := by
    rw [← bs_length, hVb, List.length_append]
    have := List.length_pos_iff.2 hd3n
    omega
  have hm45 : ((V[0].toNat : Int) == 45) = true := by
    have e := bs_drop V 0 hV0
    rw [List.drop_zero, hVb] at e
    have hx : decide (V[0] = 45) = true := by
      rw [← hmi]
      rcases hs2 with rfl | rfl | rfl
      · cases d3 with
        | nil => exact absurd rfl hd3n
        | cons c t =>
          simp only [List.nil_append, List.cons.injEq] at e
          rw [← e.1]
          have := (head_digs hd3 c t rfl).2
          simp [this]
      · simp only [List.cons_append, List.nil_append, List.cons.injEq] at e
        rw [← e.1]; rfl
      · simp only [List.cons_append, List.nil_append, List.cons.injEq] at e
        rw [← e.1]; rfl
    rw [← hx]
    rw [Bool.eq_iff_iff, beq_iff_eq, decide_eq_true_iff]
    exact ⟨fun h => u8_eq (d := 45) h, fun h => by rw [h]; rfl⟩
  have hlen4 : 4 < (dec (val d3)).length := by
    apply Classical.byContradiction; intro hn
    have h5 := dec_lt (val d3)
    have h6 := Nat.pow_le_pow_right (n := 10) (by decide) (show (dec (val d3)).length ≤ 4 by omega)
    omega
  have hev : exV sg2 d3 = -9999 := by
    unfold exV
    rw [show (if sg2 = [45] then -((min 9999 (val d3) : Nat) : Int) else ((min 9999 (val d3) : Nat) : Int)) = if decide (sg2 = [45]) = true then -((min 9999 (val d3) : Nat) : Int) else ((min 9999 (val d3) : Nat) : Int) by simp, hmi]
    simp only [if_true, if_false, Bool.false_eq_true]
    omega
  have HTL := Lib.hid (show Lib.trimLeftS (sg ++ (b ++ (ce :: (sg2 ++ d3)))) [43, 45] = bs U by rw [hUb]; exact HTL.out)
  have HUO := Lib.hid (show ofL (bs U) = U from ofL_bs U)
  clear hV hl hda hdn h1 h2 hU hUb hVb hfr hs2 hd3 hd3n hmi hB hbl hlen
  have HEV := Lib.hid hev
  clear hev
  go_enter Tryz.func44, Tryz.ntmps44
  go_wp2_with fail
  obtain ⟨w0, hw0, hz0, hv0, hc0, hf0⟩ := one_laid w false ⟨#[]⟩ 0
  rw [hw0]
  have hm0 : MaxCell w0 := hM.below hv0
  clear hw0
  refine (trimLeft_to s U _ _ HL.out HTL.out).mono ?_
  rintro e w1 ⟨rfl, hb1⟩
  obtain ⟨hz1, hc1, hf1⟩ := one_kept hb1 hz0 hc0 hf0
  have hv1 := hv0.trans (hb1.mono hv0.size)
  have hm1 := MaxCell.below hm0 hb1
  clear hb1 hz0 hc0 hf0 hv0 hm0
  go_wp2_with fail
  refine (indexAny_to _ _ (B : Int) _ HUB.out HUS.out HAS.out HIA.out).mono ?_
  rintro e w2 ⟨rfl, hb2⟩
  obtain ⟨hz2, hc2, hf2⟩ := one_kept hb2 hz1 hc1 hf1
  have hv2 := hv1.trans (hb2.mono hv1.size)
  have hm2 := MaxCell.below hm1 hb2
  clear hb2 hz1 hc1 hf1 hv1 hm1
  go_wp2_with fail
  refine (trimLeft_to V (ofL d3) _ _ HVB.out HTL2.out).mono ?_
  rintro e w3 ⟨rfl, hb3⟩
  obtain ⟨hz3, hc3, hf3⟩ := one_kept hb3 hz2 hc2 hf2
  have hv3 := hv2.trans (hb3.mono hv2.size)
  have hm3 := MaxCell.below hm2 hb3
  clear hb3 hz2 hc2 hf2 hv2 hm2
  go_wp2_with fail
  refine (trimNat_to _ _ _ HD3.out HDA.out).mono ?_
  rintro e w4 ⟨rfl, hb4⟩
  obtain ⟨hz4, hc4, hf4⟩ := one_kept hb4 hz3 hc3 hf3
  have hv4 := hv3.trans (hb4.mono hv3.size)
  have hm4 := MaxCell.below hm3 hb4
  clear hb4 hz3 hc3 hf3 hv3 hm3
  go_wp2_with fail
  refine (cut_to _ b d1 d2 _ (by assumption) (by first | exact HB.out | rfl) (by first | exact HBS.out | (rw [size_ofL]; omega)) HC.out.1 HC.out.2).mono ?_
  rintro e w5 ⟨f, rfl, hb5⟩
  obtain ⟨hz5, hc5, hf5⟩ := one_kept hb5 hz4 hc4 hf4
  have hv5 := hv4.trans (hb5.mono hv4.size)
  have hm5 := MaxCell.below hm4 hb5
  clear hb5 hz4 hc4 hf4 hv4 hm4
  go_wp2_with fail
  refine (hN.out _ _ _ HT.out (by have := HEV.out; omega)).mono ?_
  rintro e w6 ⟨rfl, hb6⟩
  obtain ⟨hz6, hc6, hf6⟩ := one_kept hb6 hz5 hc5 hf5
  have hv6 := hv5.trans (hb6.mono hv5.size)
  have hm6 := MaxCell.below hm5 hb6
  clear hb6 hz5 hc5 hf5 hv5 hm5
  go_wp2
  refine bodyPost_ret (v := .tuple #[.agg #[.bool n', .string u, .int .i64 y'], .int .i64 c]) (by simp [results, Tryz.results44, go_sem, *]) rfl ⟨rfl, ?_⟩
  exact set_three hv6 (Nat.le_refl w.heap.size) _ _ _

theorem decRead_any (s : ByteArray) (sg b d1 d2 ex sg2 d3 : List UInt8) (w : World) (hM : MaxCell w) (hs : s.size ≤ 1048576) (hl : bs s = sg ++ (b ++ ex)) (h1 : IsSg sg) (h2 : IsBody b d1 d2) (h3 : IsEx ex sg2 d3) :
    Calls Tryz.prog 44 #[.string s] w fun e w' => e = .returned (readV sg d1 d2 sg2 d3) ∧ Below w.heap.size w w' := by
  rcases h3 with ⟨rfl, rfl, rfl⟩ | ⟨ce, hce, rfl, hs2, hd3, hd3n⟩
  · exact decRead_plain s sg b d1 d2 [] [] rfl w hM hs hl h1 h2
  · cases hmi : decide (sg2 = [45])
    · by_cases hsh : val d3 ≤ 9999
      · exact decRead_ps s sg b d1 d2 sg2 d3 ce w hM hs hl h1 h2 hce hs2 hd3 hd3n hmi hsh
      · exact decRead_pl s sg b d1 d2 sg2 d3 ce w hM hs hl h1 h2 hce hs2 hd3 hd3n hmi (by omega)
    · by_cases hsh : val d3 ≤ 9999
      · exact decRead_ms s sg b d1 d2 sg2 d3 ce w hM hs hl h1 h2 hce hs2 hd3 hd3n hmi hsh
      · exact decRead_ml s sg b d1 d2 sg2 d3 ce w hM hs hl h1 h2 hce hs2 hd3 hd3n hmi (by omega)
end Go.Proofs.YtjjpdoabagnmoaaGreatDoor

/-
  Texts of this claim in one file, in build order: NatRound, Normal, NatAddS, NatRoundS. Each says ahead what it proves and under which conditions.
-/
import Derived.Test.YtjjpdoabagnmoaaGreatDoorQ04
/-
  The contract of rounding a natural by a power of ten, the program's. Conditions: a canonical row and a power, no longer than 2 to the 38.
-/
namespace Go.Proofs.YtjjpdoabagnmoaaGreatDoor
open Go.RowKit
set_option linter.unusedVariables false
set_option linter.unusedSimpArgs false

theorem bs_front (s : ByteArray) (k : Nat) : bs (s.extract 0 k) = (bs s).take k := by
  show (s.extract 0 k).data.toList = _
  rw [Lib.extract_data]; simp [bs]
theorem bs_tail (s : ByteArray) (k : Nat) : bs (s.extract k s.size) = (bs s).drop k := by
  show (s.extract k s.size).data.toList = _
  rw [Lib.extract_data]
  exact List.take_of_length_le (by rw [List.length_drop, show s.data.toList = bs s from rfl, bs_length]; exact Nat.le_refl _)
theorem all_take {l : List UInt8} (h : l.all isDig = true) (k : Nat) : (l.take k).all isDig = true := by
  rw [List.all_eq_true] at h ⊢; exact fun c hc => h c (List.mem_of_mem_take hc)
theorem all_drop {l : List UInt8} (h : l.all isDig = true) (k : Nat) : (l.drop k).all isDig = true := by
  rw [List.all_eq_true] at h ⊢; exact fun c hc => h c (List.mem_of_mem_drop hc)

theorem natAdd_one (m : Nat) (w : World) (hm : (dec m).length ≤ 549755813888) :
    Calls Tryz.prog 82 #[.string (ofL (dec m)), .string ⟨#[49]⟩] w fun e w' => e = .returned (.string (ofL (dec (m + 1)))) ∧ Below w.heap.size w w' := by
  have h := natAdd_any (ofL (dec m)) ⟨#[49]⟩ w (by rw [bs_ofL]; exact dec_all m) (by decide) (by rw [size_ofL]; exact hm) (by decide)
  rw [bs_ofL, val_dec, show val (bs ⟨#[49]⟩) = 1 from by decide] at h
  exact h

/-- the string of a canonical number, its last digit -/
theorem last_dec (m : Nat) : ∃ q : ByteArray, ofL (dec m) = q ∧ bs q = dec m ∧ ∃ h : 0 < q.size, q[q.size - 1].toNat = 48 + m % 10 := by
  refine ⟨ofL (dec m), rfl, rfl, ?_⟩
  have hl := dec_len m
  have hs := size_ofL (dec m)
  refine ⟨by omega, ?_⟩
  have e : (ofL (dec m))[(ofL (dec m)).size - 1]'(by omega) = (dec m)[(dec m).length - 1]'(by omega) := by
    rw [← bs_get (ofL (dec m)) _ (by omega)]
    congr 1
    try rw [hs]
  rw [e, dec_last m, ofNat_dig (Nat.mod_lt _ (by omega))]

set_option maxRecDepth 10000 in
set_option maxHeartbeats 1000000 in
theorem natRound_any (s : ByteArray) (n : Nat) (w : World) (hc : Canon (bs s)) (hs : s.size ≤ 274877906944) (hn : n ≤ 274877906944) :
    Calls Tryz.prog 79 #[.string s, .int .i64 (n : Int)] w fun e w' => e = .returned (.string (ofL (dec (roundV (val (bs s)) n)))) ∧ Below w.heap.size w w' := by
  by_cases h0 : n = 0
  · have e : s = ofL (dec (roundV (val (bs s)) n)) := by rw [h0, roundV_zero, canon_dec hc, ofL_bs]
    rw [← e]
    have hnb : ((n : Int) == 0) = true := beq_iff_eq.2 (by omega)
    clear e hc h0
    go_enter Tryz.func79, Tryz.ntmps79
    go_wp2
    go_ret
    exact ⟨rfl, Below.refl _ _⟩
  · have hnb : ((n : Int) == 0) = false := beq_eq_false_iff_ne.2 (by omega)
    by_cases hbig : s.size < n
    · have hlt := val_lt (bs s) hc.dig
      rw [bs_length] at hlt
      have e : ofL (dec (roundV (val (bs s)) n)) = ⟨#[48]⟩ := by rw [roundV_small hlt hbig, dec_zero]; rfl
      rw [e]
      clear e hc h0 hlt
      go_enter Tryz.func79, Tryz.ntmps79
      go_wp2
      go_ret
      exact ⟨rfl, Below.refl _ _⟩
    · obtain ⟨m, hm⟩ : ∃ m, n = m + 1 := ⟨n - 1, by omega⟩
      obtain ⟨f1, f2⟩ := val_front hc.dig (n := n) (by rw [bs_length]; omega)
      rw [bs_length] at f1 f2
      have HTR := Lib.hid (show trimZ (bs (s.extract 0 (s.size - n))) = dec (val (bs s) / 10 ^ n) by rw [bs_front, trimZ_dec _ (all_take hc.dig _), f1])
      have hlx : ((bs s).drop (s.size - n)).length = n := by rw [List.length_drop, bs_length]; omega
      have HRC := Lib.hid (round_three (n := m) (all_drop hc.dig _) (hlx.trans hm) (by rw [← hm]; exact f2))
      rw [← hm] at HRC
      obtain ⟨q, hq, hqb, hq0, hql⟩ := last_dec (val (bs s) / 10 ^ n)
      have hlen : (dec (val (bs s) / 10 ^ n)).length ≤ s.size + 1 := by
        rw [← f1, ← trimZ_dec _ (all_take hc.dig _)]
        have := trimZ_len ((bs s).take (s.size - n))
        rw [List.length_take, bs_length] at this
        omega
      obtain ⟨Q, hQ⟩ : ∃ Q, val (bs s) / 10 ^ n = Q := ⟨_, rfl⟩
      rw [hQ] at hq hqb hql hlen HTR HRC
      have HQ := Lib.hid hq
      have HLEN := Lib.hid hlen
      have htail := bs_tail s (s.size - n)
      obtain ⟨y, hy⟩ : ∃ y, s.extract (s.size - n) s.size = y := ⟨_, rfl⟩
      rw [← htail, hy] at HRC
      have HY := Lib.hid hy
      have hz := size_ofL (zs m)
      rw [zs_len] at hz
      have hno : ¬ (9223372036854775807 < 1 + m) := by omega
      obtain ⟨V, hV⟩ : ∃ V, roundV (val (bs s)) n = V := ⟨_, rfl⟩
      rw [hV] at HRC ⊢
      have hi1 : 0 ≤ (s.size : Int) - (n : Int) := by omega
      have hi2 : (s.size : Int) - (n : Int) ≤ (s.size : Int) := by omega
      have hi3 : ((s.size : Int) - (n : Int)).toNat = s.size - n := by omega
      have hi4 : (n : Int) - 1 = (m : Int) := by omega
      have hno : ¬ (9223372036854775807 < 1 + m) := by omega
      have hqs : q.size ≤ 274877906945 := by
        rw [← hq, size_ofL]; omega
      have hqw : wrap64 ((q.size : Int) - 1) = (q.size : Int) - 1 := IntWalk.wrap64_in _ (by omega)
      have hqt : ((q.size : Int) - 1).toNat = q.size - 1 := by omega
      have hq1 : 0 ≤ (q.size : Int) - 1 := by omega
      have hq2 : (q.size : Int) - 1 < (q.size : Int) := by omega
      have hq3 : 48 ≤ (q[q.size - 1].toNat : Int) := by omega
      have hq4 : (q[q.size - 1].toNat : Int) ≤ 57 := by omega
      have hHl : ((⟨#[53]⟩ : ByteArray) ++ ofL (zs m)).toList = 53 :: zs m := by rw [toList_bs, bs_app, bs_ofL]; rfl
      have hyl : y.toList = bs y := toList_bs y
      have HADD := Lib.hid (fun (w : World) => by rw [← hq]; exact natAdd_one Q w (by omega) : ∀ w : World, Calls Tryz.prog 82 #[.string q, .string ⟨#[49]⟩] w fun e w' => e = .returned (.string (ofL (dec (Q + 1)))) ∧ Below w.heap.size w w')
      rcases HRC.out with ⟨r1, r2, r3⟩ | ⟨r1, r2, r3⟩ | ⟨r1, r2, r3⟩ | ⟨r1, r2, r3⟩
      · have t1 : Op.bytesLess y.toList ((⟨#[53]⟩ : ByteArray) ++ ofL (zs m)).toList = false := by rw [hHl, hyl]; exact r1
        have t2 : ¬ (y.toList = ((⟨#[53]⟩ : ByteArray) ++ ofL (zs m)).toList) := by rw [hHl, hyl]; exact r2
        have R3 := Lib.hid r3
        clear hq hqb hlen htail hy hV hQ hlx f1 f2 hc h0 hm r1 r2 r3 hHl hyl HRC hql
        go_enter Tryz.func79, Tryz.ntmps79
        go_wp2_with fail
        go_quiet ((go_at_call 75; exact Calls.quiet_of_same (trimNat_any _ _)))
        rw [HTR.out, HQ.out, HY.out]
        go_wp2_with fail
        refine (repeat_zs m _ (by omega)).mono ?_
        rintro e w1 ⟨rfl, hb1⟩
        have HB1 := Lib.hid ((Go.below_drewN (Below.refl _ w) nq).trans hb1)
        clear hb1
        go_wp2_with fail
        refine (HADD.out _).mono ?_
        rintro e w2 ⟨rfl, hb2⟩
        have HB2 := Lib.hid (HB1.out.trans (hb2.mono HB1.out.size))
        clear hb2
        go_wp2
        go_ret
        exact ⟨ret_str (by rw [R3.out]), HB2.out⟩
      · have t1 : Op.bytesLess y.toList ((⟨#[53]⟩ : ByteArray) ++ ofL (zs m)).toList = true := by rw [hHl, hyl]; exact r1
        have t2 : ¬ (y.toList = ((⟨#[53]⟩ : ByteArray) ++ ofL (zs m)).toList) := by rw [hHl, hyl]; exact r2
        have R3 := Lib.hid r3
        clear hq hqb hlen htail hy hV hQ hlx f1 f2 hc h0 hm r1 r2 r3 hHl hyl HRC hql
        go_enter Tryz.func79, Tryz.ntmps79
        go_wp2_with fail
        go_quiet ((go_at_call 75; exact Calls.quiet_of_same (trimNat_any _ _)))
        rw [HTR.out, HQ.out, HY.out]
        go_wp2_with fail
        refine (repeat_zs m _ (by omega)).mono ?_
        rintro e w1 ⟨rfl, hb1⟩
        have HB1 := Lib.hid ((Go.below_drewN (Below.refl _ w) nq).trans hb1)
        clear hb1
        go_wp2
        go_ret
        exact ⟨ret_str (by rw [R3.out, HQ.out]), HB1.out⟩
      · have t2 : y.toList = ((⟨#[53]⟩ : ByteArray) ++ ofL (zs m)).toList := by rw [hHl, hyl]; exact r1
        have t3 : Op.bytesLess ((⟨#[53]⟩ : ByteArray) ++ ofL (zs m)).toList ((⟨#[53]⟩ : ByteArray) ++ ofL (zs m)).toList = false := less_self _
        have t1 : Op.bytesLess y.toList ((⟨#[53]⟩ : ByteArray) ++ ofL (zs m)).toList = false := by rw [t2]; exact less_self _
        have t4 : (((q[q.size - 1].toNat : Int) - 48) % 2 == 1) = true := by first | (rw [beq_iff_eq]; omega) | (rw [beq_eq_false_iff_ne]; omega)
        have R3 := Lib.hid r3
        clear hq hqb hlen htail hy hV hQ hlx f1 f2 hc h0 hm r1 r2 r3 hHl hyl HRC hql
        go_enter Tryz.func79, Tryz.ntmps79
        go_wp2_with fail
        go_quiet ((go_at_call 75; exact Calls.quiet_of_same (trimNat_any _ _)))
        rw [HTR.out, HQ.out, HY.out]
        go_wp2_with fail
        refine (repeat_zs m _ (by omega)).mono ?_
        rintro e w1 ⟨rfl, hb1⟩
        have HB1 := Lib.hid ((Go.below_drewN (Below.refl _ w) nq).trans hb1)
        clear hb1
        go_wp2_with fail
        refine (HADD.out _).mono ?_
        rintro e w2 ⟨rfl, hb2⟩
        have HB2 := Lib.hid (HB1.out.trans (hb2.mono HB1.out.size))
        clear hb2
        go_wp2
        go_ret
        exact ⟨ret_str (by rw [R3.out]), HB2.out⟩
      · have t2 : y.toList = ((⟨#[53]⟩ : ByteArray) ++ ofL (zs m)).toList := by rw [hHl, hyl]; exact r1
        have t3 : Op.bytesLess ((⟨#[53]⟩ : ByteArray) ++ ofL (zs m)).toList ((⟨#[53]⟩ : ByteArray) ++ ofL (zs m)).toList = false := less_self _
        have t1 : Op.bytesLess y.toList ((⟨#[53]⟩ : ByteArray) ++ ofL (zs m)).toList = false := by rw [t2]; exact less_self _
        have t4 : (((q[q.size - 1].toNat : Int) - 48) % 2 == 1) = false := by first | (rw [beq_iff_eq]; omega) | (rw [beq_eq_false_iff_ne]; omega)
        have R3 := Lib.hid r3
        clear hq hqb hlen htail hy hV hQ hlx f1 f2 hc h0 hm r1 r2 r3 hHl hyl HRC hql
        go_enter Tryz.func79, Tryz.ntmps79
        go_wp2_with fail
        go_quiet ((go_at_call 75; exact Calls.quiet_of_same (trimNat_any _ _)))
        rw [HTR.out, HQ.out, HY.out]
        go_wp2_with fail
        refine (repeat_zs m _ (by omega)).mono ?_
        rintro e w1 ⟨rfl, hb1⟩
        have HB1 := Lib.hid ((Go.below_drewN (Below.refl _ w) nq).trans hb1)
        clear hb1
        go_wp2
        go_ret
        exact ⟨ret_str (by rw [R3.out, HQ.out]), HB1.out⟩
end Go.Proofs.YtjjpdoabagnmoaaGreatDoor
/-
  The contract of impl.normal: formV of the digits' value. Conditions: digits, at most 2 to the 30 of them, an exponent of at most 2 to the 40.
-/
namespace Go.Proofs.YtjjpdoabagnmoaaGreatDoor
open Go.RowKit
set_option linter.unusedVariables false
set_option linter.unusedSimpArgs false

theorem dec_size (v : Nat) : ∃ q : ByteArray, ofL (dec v) = q ∧ bs q = dec v ∧ q.size = (dec v).length := ⟨_, rfl, rfl, size_ofL _⟩
theorem numV_eq {n m : Bool} {l k : List UInt8} {x y c d : Int} (h1 : n = m) (h2 : l = k) (h3 : x = y) (h4 : c = d) : numV n l x c = numV m k y d := by rw [h1, h2, h3, h4]

theorem one_laid (w : World) (n : Bool) (s : ByteArray) (x : Int) :
    ∃ w0, w.alloc (Obj.cells #[.bool n, .string s, .int .i64 x] 23) = w0 ∧ w.heap.size < w0.heap.size ∧ Below w.heap.size w w0 ∧
      (w0.cell? ⟨w.heap.size, 0, none⟩ = some (.bool n) ∧ w0.cell? ⟨w.heap.size, 1, none⟩ = some (.string s) ∧ w0.cell? ⟨w.heap.size, 2, none⟩ = some (.int .i64 x)) ∧ (w0.frozen? ⟨w.heap.size, 0, none⟩ = false ∧ w0.frozen? ⟨w.heap.size, 1, none⟩ = false ∧ w0.frozen? ⟨w.heap.size, 2, none⟩ = false) := by
  refine ⟨_, rfl, by simp, (Below.refl _ w).alloc (Nat.le_refl _) _, ?_⟩
  simp

theorem one_kept {w w1 : World} {p : Nat} {n : Bool} {s : ByteArray} {x : Int} (hb : Below w.heap.size w w1) (hp : p < w.heap.size)
    (h : w.cell? ⟨p, 0, none⟩ = some (.bool n) ∧ w.cell? ⟨p, 1, none⟩ = some (.string s) ∧ w.cell? ⟨p, 2, none⟩ = some (.int .i64 x))
    (h' : w.frozen? ⟨p, 0, none⟩ = false ∧ w.frozen? ⟨p, 1, none⟩ = false ∧ w.frozen? ⟨p, 2, none⟩ = false) :
    p < w1.heap.size ∧ (w1.cell? ⟨p, 0, none⟩ = some (.bool n) ∧ w1.cell? ⟨p, 1, none⟩ = some (.string s) ∧ w1.cell? ⟨p, 2, none⟩ = some (.int .i64 x)) ∧
      (w1.frozen? ⟨p, 0, none⟩ = false ∧ w1.frozen? ⟨p, 1, none⟩ = false ∧ w1.frozen? ⟨p, 2, none⟩ = false) := by
  obtain ⟨c, f⟩ := bcell hb
  rw [c p 0 hp, c p 1 hp, c p 2 hp, f p 0 hp, f p 1 hp, f p 2 hp]
  exact ⟨Nat.lt_of_lt_of_le hp hb.size, h, h'⟩

set_option maxRecDepth 10000 in
set_option maxHeartbeats 1000000 in
theorem normal_any (n : Bool) (s : ByteArray) (x : Int) (w : World) (hd : (bs s).all isDig = true) (hs : s.size ≤ 1073741824) (hx : -1099511627776 ≤ x) (hx2 : x ≤ 1099511627776) :
    Calls Tryz.prog 47 #[.bool n, .string s, .int .i64 x] w fun e w' => e = .returned (formV n (val (bs s)) x) ∧ Below w.heap.size w w' := by
  have htl := trimZ_len (bs s)
  have htr := trimZ_dec (bs s) hd
  rw [htr, bs_length] at htl
  have HTR := Lib.hid htr
  obtain ⟨v, hv⟩ : ∃ v, val (bs s) = v := ⟨_, rfl⟩
  rw [hv] at htl HTR ⊢
  clear htr hv hd
  obtain ⟨q, hq, hqb, hqs⟩ := dec_size v
  have HQ := Lib.hid hq
  have hl1 := dec_len v
  obtain ⟨r, hr, hrb, hrs⟩ := dec_size (fR v)
  have HR := Lib.hid hr
  have hft := fT_len v
  have htl2 := fT_len_le v
  have hts := size_ofL (fT v)
  obtain ⟨t, ht⟩ : ∃ t, ofL (fT v) = t := ⟨_, rfl⟩
  have HTM := Lib.hid (show (⟨(Lib.trimRightB r.data.toList 48).toArray⟩ : ByteArray) = t by rw [← hr, ← ht]; rfl)
  have HT := Lib.hid ht
  rw [ht] at hts
  have hfr : (dec (fR v)).length ≤ 21 := dec_len_le 21 _ (by omega) (by have := fR_le v; omega)
  by_cases h0 : v = 0
  · have e1 : formV n v x = numV false [] 0 0 := by unfold formV; rw [if_pos h0]
    have hsz : q.size = 1 := by rw [hqs, h0, dec_zero]; rfl
    have HTM0 := Lib.hid (show (⟨(Lib.trimRightB q.data.toList 48).toArray⟩ : ByteArray) = ⟨#[]⟩ by rw [← hq, h0, dec_zero]; rfl)
    have hcs : ∀ u : World, Calls Tryz.prog 80 #[.string q, .string ⟨#[48]⟩] u fun e w' => e = .returned (.string ⟨#[]⟩) ∧ w' = u := fun u => by
      have := Tryz.strings_TrimRight_one q 48 (by decide) u (by omega)
      rw [HTM0.out] at this
      exact this
    have HCS := Lib.hid hcs
    rw [e1]
    clear e1 h0 hcs hft htl2 hts ht hfr hr hrb hrs hq hqb hqs hl1
    go_enter Tryz.func47, Tryz.ntmps47
    go_wp2_with fail
    refine (trimNat_any _ _).mono ?_
    rintro e w1 ⟨rfl, hw1⟩
    subst hw1
    obtain ⟨w0, hw0, hz0, hb0, hc0, hf0⟩ := one_laid w false ⟨#[]⟩ 0
    rw [hw0, HTR.out, HQ.out]
    clear hw0
    have hqs : (q.size : Int) = 1 := by omega
    go_wp2_with fail
    refine (HCS.out _).mono ?_
    rintro e w1 ⟨rfl, hw1⟩
    obtain rfl : w0 = w1 := hw1.symm
    clear hw1
    go_wp2
    refine bodyPost_ret (v := .tuple #[.agg #[.bool false, .string ⟨#[]⟩, .int .i64 0], .int .i64 0]) (by simp [results, Tryz.results47, go_sem, *]) rfl ⟨rfl, ?_⟩
    exact ((hb0.setCell (Nat.le_refl _) _).setCell (Nat.le_refl _) _).setCell (Nat.le_refl _) _
  · have hrT : ∀ u : World, Calls Tryz.prog 80 #[.string r, .string ⟨#[48]⟩] u fun e w' => e = .returned (.string t) ∧ w' = u := fun u => by
      have := Tryz.strings_TrimRight_one r 48 (by decide) u (by omega)
      rw [HTM.out] at this
      exact this
    have HCS := Lib.hid hrT
    have hne : 0 < t.size := by
      rw [hts]; exact List.length_pos_iff.2 (fT_ne h0)
    have hemp := isEmpty_no hne
    have hfe : fE v x = x + (fM v : Int) + (r.size : Int) - (t.size : Int) := by unfold fE fK; omega
    have hfm : fM v = q.size - 20 := by unfold fM; rw [hqs]
    have hfh : fH v x = fE v x + (t.size : Int) - 1 := by unfold fH; rw [hts]
    have hrt : t.size ≤ r.size := by omega
    have hr21 : r.size ≤ 21 := by omega
    obtain ⟨E, hE⟩ : ∃ E, fE v x = E := ⟨_, rfl⟩
    rw [hE] at hfe hfh
    have HEND : Hid (formV n v x = if 99 < E + (t.size : Int) - 1 then numV false [] 0 1 else if E + (t.size : Int) - 1 < -99 then numV false [] 0 0 else numV n (fT v) E 0) := Lib.hid (by unfold formV; rw [if_neg h0, hfh, hE])
    have hqb2 : q.size ≤ 1073741825 := by omega
    have HCAN := Lib.hid (show Canon (bs q) by rw [hqb]; exact dec_canon v)
    have HVAL := Lib.hid (show val (bs q) = v by rw [hqb, val_dec])
    clear hrT h0 hft htl2 hts ht hfr hr hrb hrs hq hqb hqs hl1 hfh hE
    by_cases hbig : 20 < q.size
    · obtain ⟨m, hm⟩ : ∃ m : Nat, q.size = 20 + m := ⟨q.size - 20, by omega⟩
      have hmi : (q.size : Int) - 20 = (m : Int) := by omega
      have hfm' : fM v = m := by omega
      have HRO := Lib.hid (fun u : World => by
        have := natRound_any q m u HCAN.out (by omega) (by omega)
        rw [HVAL.out, ← hfm', show roundV v (fM v) = fR v from rfl, HR.out] at this
        rw [← hfm']
        exact this : ∀ u : World, Calls Tryz.prog 79 #[.string q, .int .i64 (m : Int)] u fun e w' => e = .returned (.string r) ∧ Below u.heap.size u w')
      rw [hfm'] at hfe
      have hqb3 : m ≤ 1073741825 := by omega
      clear hfm hfm' hm
      go_enter Tryz.func47, Tryz.ntmps47
      go_wp2_with fail
      refine (trimNat_any _ _).mono ?_
      rintro e w1 ⟨rfl, hw1⟩
      subst hw1
      obtain ⟨w0, hw0, hz0, hb0, hc0, hf0⟩ := one_laid w false ⟨#[]⟩ 0
      rw [hw0, HTR.out, HQ.out]
      clear hw0
      go_wp2_with fail
      refine (HRO.out _).mono ?_
      rintro e w1 ⟨rfl, hb1⟩
      have HB1 := Lib.hid hb1
      clear hb1
      go_wp2_with fail
      refine (HCS.out _).mono ?_
      rintro e w2 ⟨rfl, hw2⟩
      obtain rfl : w1 = w2 := hw2.symm
      clear hw2
      obtain ⟨hz1, hc1, hf1⟩ := one_kept HB1.out hz0 hc0 hf0
      have HBW := Lib.hid (hb0.trans (HB1.out.mono hb0.size))
      clear hz0 hc0 hf0 hb0
      have hE1 : x + (m : Int) + ((r.size : Int) - (t.size : Int)) = E := by omega
      have hEb : -3298534883328 ≤ E ∧ E ≤ 3298534883328 := by omega
      obtain ⟨hEb1, hEb2⟩ := hEb
      have hts20 : t.size ≤ 21 := by omega
      clear hfe
      by_cases e1 : 99 < E + (t.size : Int) - 1
      · go_wp2
        refine bodyPost_ret (v := .tuple #[.agg #[.bool false, .string ⟨#[]⟩, .int .i64 0], .int .i64 1]) (by simp [results, Tryz.results47, go_sem, *]) rfl ?_
        exact ⟨by rw [HEND.out, if_pos (show 99 < E + (t.size : Int) - 1 by omega)]; rfl, ((HBW.out.setCell (Nat.le_refl _) _).setCell (Nat.le_refl _) _).setCell (Nat.le_refl _) _⟩
      · by_cases e2 : E + (t.size : Int) - 1 < -99
        · go_wp2
          refine bodyPost_ret (v := .tuple #[.agg #[.bool false, .string ⟨#[]⟩, .int .i64 0], .int .i64 0]) (by simp [results, Tryz.results47, go_sem, *]) rfl ?_
          exact ⟨by rw [HEND.out, if_neg (show ¬ 99 < E + (t.size : Int) - 1 by omega), if_pos (show E + (t.size : Int) - 1 < -99 by omega)]; rfl, ((HBW.out.setCell (Nat.le_refl _) _).setCell (Nat.le_refl _) _).setCell (Nat.le_refl _) _⟩
        · go_wp2
          refine bodyPost_ret (v := .tuple #[.agg #[.bool n, .string t, .int .i64 E], .int .i64 0]) (by simp [results, Tryz.results47, go_sem, *]) rfl ?_
          exact ⟨by rw [HEND.out, if_neg (show ¬ 99 < E + (t.size : Int) - 1 by omega), if_neg (show ¬ E + (t.size : Int) - 1 < -99 by omega)]; unfold numV; rw [HT.out], ((HBW.out.setCell (Nat.le_refl _) _).setCell (Nat.le_refl _) _).setCell (Nat.le_refl _) _⟩
    · have hfR : fR v = v := by rw [← HVAL.out]; exact (fM_small (v := val (bs q)) (by rw [HVAL.out, show (dec v).length = q.size by rw [← HQ.out, size_ofL]]; omega)).2
      have hqr : q = r := by rw [← HQ.out, ← HR.out, hfR]
      have hfm0 : fM v = 0 := by omega
      have hqb4 : q.size ≤ 20 := by omega
      rw [hfm0] at hfe
      subst hqr
      clear hfm hfm0 hfR
      go_enter Tryz.func47, Tryz.ntmps47
      go_wp2_with fail
      refine (trimNat_any _ _).mono ?_
      rintro e w1 ⟨rfl, hw1⟩
      subst hw1
      obtain ⟨w0, hw0, hz0, hb0, hc0, hf0⟩ := one_laid w false ⟨#[]⟩ 0
      rw [hw0, HTR.out, HQ.out]
      clear hw0
      go_wp2_with fail
      refine (HCS.out _).mono ?_
      rintro e w2 ⟨rfl, hw2⟩
      obtain rfl : w0 = w2 := hw2.symm
      clear hw2
      have HBW := Lib.hid hb0
      clear hb0
      have hE1 : x + ((q.size : Int) - (t.size : Int)) = E := by omega
      have hEb : -3298534883328 ≤ E ∧ E ≤ 3298534883328 := by omega
      obtain ⟨hEb1, hEb2⟩ := hEb
      have hts20 : t.size ≤ 21 := by omega
      clear hfe
      by_cases e1 : 99 < E + (t.size : Int) - 1
      · go_wp2
        refine bodyPost_ret (v := .tuple #[.agg #[.bool false, .string ⟨#[]⟩, .int .i64 0], .int .i64 1]) (by simp [results, Tryz.results47, go_sem, *]) rfl ?_
        exact ⟨by rw [HEND.out, if_pos (show 99 < E + (t.size : Int) - 1 by omega)]; rfl, ((HBW.out.setCell (Nat.le_refl _) _).setCell (Nat.le_refl _) _).setCell (Nat.le_refl _) _⟩
      · by_cases e2 : E + (t.size : Int) - 1 < -99
        · go_wp2
          refine bodyPost_ret (v := .tuple #[.agg #[.bool false, .string ⟨#[]⟩, .int .i64 0], .int .i64 0]) (by simp [results, Tryz.results47, go_sem, *]) rfl ?_
          exact ⟨by rw [HEND.out, if_neg (show ¬ 99 < E + (t.size : Int) - 1 by omega), if_pos (show E + (t.size : Int) - 1 < -99 by omega)]; rfl, ((HBW.out.setCell (Nat.le_refl _) _).setCell (Nat.le_refl _) _).setCell (Nat.le_refl _) _⟩
        · go_wp2
          refine bodyPost_ret (v := .tuple #[.agg #[.bool n, .string t, .int .i64 E], .int .i64 0]) (by simp [results, Tryz.results47, go_sem, *]) rfl ?_
          exact ⟨by rw [HEND.out, if_neg (show ¬ 99 < E + (t.size : Int) - 1 by omega), if_neg (show ¬ E + (t.size : Int) - 1 < -99 by omega)]; unfold numV; rw [HT.out], ((HBW.out.setCell (Nat.le_refl _) _).setCell (Nat.le_refl _) _).setCell (Nat.le_refl _) _⟩
end Go.Proofs.YtjjpdoabagnmoaaGreatDoor
/-
  The contract of adding naturals, the reference's: the row of the sum. Conditions: rows of digits, no longer than 2 to the 39.
-/
namespace Go.Proofs.YtjjpdoabagnmoaaGreatDoor
open Go.RowKit
set_option linter.unusedVariables false
set_option linter.unusedSimpArgs false

theorem ofNat_val {d : Nat} (h : d < 10) : ((UInt8.ofNat (48 + d)).toNat : Int) = 48 + (d : Int) := by rw [ofNat_dig h]; omega

set_option maxRecDepth 10000 in
set_option maxHeartbeats 2000000 in
theorem l02Add_any (s t : ByteArray) (w : World) (hs : (bs s).all isDig = true) (ht : (bs t).all isDig = true) (hs' : s.size ≤ 549755813888) (ht' : t.size ≤ 549755813888) :
    Calls Tryz.prog 123 #[.string s, .string t] w fun e w' => e = .returned (.string (ofL (dec (val (bs s) + val (bs t))))) ∧ Below w.heap.size w w' := by
  obtain ⟨i0, hi, hz0, hz1, hz2⟩ := info_parts infoByte
  obtain ⟨n, hn⟩ : ∃ n : Nat, n = max s.size t.size := ⟨_, rfl⟩
  have HS := Lib.hid hs
  have HT := Lib.hid ht
  obtain ⟨A, hA⟩ : ∃ A, val (bs s) = A := ⟨_, rfl⟩
  obtain ⟨B, hB⟩ : ∃ B, val (bs t) = B := ⟨_, rfl⟩
  have hA' := val_lt (bs s) hs
  have hB' := val_lt (bs t) ht
  rw [bs_length, hA] at hA'
  rw [bs_length, hB] at hB'
  have HA := Lib.hid hA
  have HB := Lib.hid hB
  have HLA := Lib.hid hA'
  have HLB := Lib.hid hB'
  have hns : s.size ≤ n := by omega
  have hnt : t.size ≤ n := by omega
  have hnb : n ≤ 549755813888 := by omega
  rw [hA, hB]
  clear hs ht hA hB hA' hB' hn
  go_enter Tryz.func123, Tryz.ntmps123
  go_wp2
  go_loopw [5, 6, 7] (fun v c i wr => ∃ (k g cap : Nat), k ≤ n + 1 ∧ i = .int .i64 k ∧ c = .int .i64 (car A B k : Nat) ∧ v = .slice (some ⟨g, 0, none⟩) k cap ∧ wr.ownsRow w.heap.size 5 1 (.slice (some ⟨g, 0, none⟩) k cap) k ((digs (A + B) k).map byteV) ∧ Below w.heap.size w wr) (fun _ _ i _ => n + 2 - (intOf i).toNat)
  case atStart =>
    exact ⟨0, w.heap.size, 0, Nat.zero_le _, rfl, by rw [car_zero]; rfl, rfl, ownsRow_empty _ _ _ (Nat.le_refl _), (Below.refl _ _).alloc (Nat.le_refl _) _⟩
  case round =>
    obtain ⟨k, g, cap, hk, rfl, rfl, rfl, hown, hb⟩ := hrel
    have HOW := Lib.hid hown
    have HBW := Lib.hid hb
    have hlow := hb.size
    clear hown hb
    have c1 := car_le A B k
    have c2 := dgt_lt A k
    have c3 := dgt_lt B k
    have HC4 := Lib.hid (car_succ A B k)
    have HC5 := Lib.hid (car_dgt A B k)
    obtain ⟨c, hc⟩ : ∃ c, car A B k = c := ⟨_, rfl⟩
    obtain ⟨x, hx⟩ : ∃ x, dgt A k = x := ⟨_, rfl⟩
    obtain ⟨y, hy⟩ : ∃ y, dgt B k = y := ⟨_, rfl⟩
    rw [hc] at c1 ⊢
    rw [hx] at c2
    rw [hy] at c3
    have HC := Lib.hid hc
    have HX := Lib.hid hx
    have HY := Lib.hid hy
    have hcn : k = n + 1 → c = 0 := fun e => by
      rw [← hc, e]
      exact car_over (n := n) (Nat.lt_of_lt_of_le HLA.out (Nat.pow_le_pow_right (by omega) hns)) (Nat.lt_of_lt_of_le HLB.out (Nat.pow_le_pow_right (by omega) hnt)) (by omega)
    clear hc hx hy
    by_cases hgo : k < s.size ∨ k < t.size ∨ 0 < c
    · have hkn : k ≤ n := by omega
      have hd0 : 0 ≤ ((x : Int) + (y : Int) + (c : Int)) / 10 := by omega
      have hd1 : ((x : Int) + (y : Int) + (c : Int)) / 10 ≤ 1 := by omega
      have hm0 : 0 ≤ ((x : Int) + (y : Int) + (c : Int)) % 10 := by omega
      have hm1 : ((x : Int) + (y : Int) + (c : Int)) % 10 ≤ 9 := by omega
      clear hcn
      rcases (by omega : k < s.size ∨ (s.size ≤ k ∧ k < t.size) ∨ (s.size ≤ k ∧ t.size ≤ k ∧ 0 < c)) with h1 | ⟨h1, h2⟩ | ⟨h1, h2, h3⟩
      all_goals
        clear hgo
        go_wp2_with fail
        refine (l02Digit_any s k _ HS.out (by omega) (by omega)).mono ?_
        rintro e w1 ⟨rfl, hw1⟩
        obtain rfl : wr = w1 := hw1.symm
        rw [HA.out, HX.out]
        go_wp2_with fail
        refine (l02Digit_any t k _ HT.out (by omega) (by omega)).mono ?_
        rintro e w2 ⟨rfl, hw2⟩
        obtain rfl : wr = w2 := hw2.symm
        rw [HB.out, HY.out]
        clear hw1 hw2
        go_wp2_with (at_builtin; refine wpList_append_own _ rfl _ _ 28 rfl w.heap.size 5 i0 (.int .u8 0) 1 1 Tryz.underlying28 hi hz0 hz1 hz2 rfl (by decide) _ _ _ rfl (ownsRow_one wr w.heap.size 5 _ hlow) ⟨g, 0, none⟩ k cap ((digs (A + B) k).map byteV) rfl (by simp [digs_length]) (ownsRow_news (HOW.out.alloc _)) byteV_one (by unfold maxLen; omega) (by omega) (by simp; omega) ?_; intro v2 w2 hown2 hgr2 hnil2)
        have e4 := HC4.out
        have e5 := HC5.out
        rw [HC.out, HX.out, HY.out] at e4 e5
        obtain ⟨g2, cap2, rfl, hg2, hg2'⟩ := ownsRow_some hown2 (by omega)
        have hbz : Below w.heap.size w w2 := Below.grown (HBW.out.alloc hlow _) hgr2 (by simp; omega) (ownBlock_lo (ownsRow_one wr w.heap.size 5 (.bool true) hlow))
        refine ⟨⟨k + 1, g2, cap2, by omega, by go_num, by rw [← e4]; congr 1; omega, by rw [Nat.add_comm 1 k], ?_, hbz⟩, by simp [intOf]; omega⟩
        rw [digs_cons, List.map_cons, ← e5]
        rw [Nat.add_comm 1 k] at hown2
        have hx5 : byteV (UInt8.ofNat (48 + (c + x + y) % 10)) = .int .u8 (48 + ((x : Int) + (y : Int) + (c : Int)) % 10) := by
          unfold byteV; rw [ofNat_val (Nat.mod_lt _ (by omega))]; congr 1; omega
        rw [hx5]
        exact hown2
    · have hc0 : c = 0 := by omega
      have h1 : s.size ≤ k := by omega
      have h2 : t.size ≤ k := by omega
      have hconv := textOfOwned HOW.out
      have hAk : A < 10 ^ k := Nat.lt_of_lt_of_le HLA.out (Nat.pow_le_pow_right (by omega) h1)
      have hBk : B < 10 ^ k := Nat.lt_of_lt_of_le HLB.out (Nat.pow_le_pow_right (by omega) h2)
      have HTD := Lib.hid (trimZ_digs (car_end hAk hBk (by rw [HC.out, hc0])))
      subst hc0
      clear hAk hBk hcn hgo
      go_wp2_with fail
      refine (l02Trim_any _ _ (by rw [size_ofL, digs_length]; omega)).mono ?_
      rintro e w1 ⟨rfl, hw1⟩
      obtain rfl : wr = w1 := hw1.symm
      go_wp2
      go_ret
      refine ⟨ret_str ?_, HBW.out⟩
      rw [bs_ofL, HTD.out]
end Go.Proofs.YtjjpdoabagnmoaaGreatDoor
/-
  The contract of rounding a row by a power of ten, the reference's. Conditions: a row of digits and a power, no longer than 2 to the 37.
-/
namespace Go.Proofs.YtjjpdoabagnmoaaGreatDoor
open Go.RowKit
set_option linter.unusedVariables false
set_option linter.unusedSimpArgs false

theorem l02Add_one (m : Nat) (w : World) (hm : (dec m).length ≤ 549755813888) :
    Calls Tryz.prog 123 #[.string (ofL (dec m)), .string ⟨#[49]⟩] w fun e w' => e = .returned (.string (ofL (dec (m + 1)))) ∧ Below w.heap.size w w' := by
  have h := l02Add_any (ofL (dec m)) ⟨#[49]⟩ w (by rw [bs_ofL]; exact dec_all m) (by decide) (by rw [size_ofL]; exact hm) (by decide)
  rw [bs_ofL, val_dec, show val (bs ⟨#[49]⟩) = 1 from by decide] at h
  exact h
theorem l02Digit_dec (m : Nat) (w : World) (hm : (dec m).length ≤ 549755813888) :
    Calls Tryz.prog 122 #[.string (ofL (dec m)), .int .i64 0] w fun e w' => e = .returned (.int .i64 ((m % 10 : Nat) : Int)) ∧ w' = w := by
  have h := l02Digit_any (ofL (dec m)) 0 w (by rw [bs_ofL]; exact dec_all m) (by rw [size_ofL]; omega) (by omega)
  rw [bs_ofL, val_dec, dgt_zero] at h
  exact h

set_option maxRecDepth 10000 in
set_option maxHeartbeats 1000000 in
theorem l02Round_any (s : ByteArray) (n : Nat) (w : World) (hc : (bs s).all isDig = true) (hs : s.size ≤ 137438953472) (hn : n ≤ 137438953472) :
    Calls Tryz.prog 94 #[.string s, .int .i64 (n : Int)] w fun e w' => e = .returned (.string (ofL (dec (roundV (val (bs s)) n)))) ∧ Below w.heap.size w w' := by
  by_cases h0 : n = 0
  · have HTR := Lib.hid (show trimZ (bs s) = dec (roundV (val (bs s)) n) by rw [h0, roundV_zero, trimZ_dec _ hc])
    have hnb : ((n : Int) == 0) = true := beq_iff_eq.2 (by omega)
    clear hc h0
    go_enter Tryz.func94, Tryz.ntmps94
    go_wp2_with fail
    refine (l02Trim_any _ _ (by omega)).mono ?_
    rintro e w1 ⟨rfl, rfl⟩
    rw [HTR.out]
    go_wp2
    go_ret
    exact ⟨rfl, Below.refl _ _⟩
  · have hnb : ((n : Int) == 0) = false := beq_eq_false_iff_ne.2 (by omega)
    obtain ⟨m, hm⟩ : ∃ m, n = m + 1 := ⟨n - 1, by omega⟩
    obtain ⟨t, ht⟩ : ∃ t, ofL (zs n) ++ s = t := ⟨_, rfl⟩
    have htb : bs t = zs n ++ bs s := by rw [← ht, bs_app, bs_ofL]
    have hts : t.size = n + s.size := by
      rw [← bs_length, htb, List.length_append, zs_len, bs_length]
    have htv : val (bs t) = val (bs s) := by rw [htb, val_zs_ahead]
    have hta : (bs t).all isDig = true := by rw [htb, List.all_append, zs_all, hc]; rfl
    rw [← htv]
    obtain ⟨f1, f2⟩ := val_front hta (n := n) (by rw [bs_length]; omega)
    rw [bs_length] at f1 f2
    have HTR := Lib.hid (show trimZ (bs (t.extract 0 (t.size - n))) = dec (val (bs t) / 10 ^ n) by rw [bs_front, trimZ_dec _ (all_take hta _), f1])
    have hlx : ((bs t).drop (t.size - n)).length = n := by rw [List.length_drop, bs_length]; omega
    have HRC := Lib.hid (round_three (n := m) (all_drop hta _) (hlx.trans hm) (by rw [← hm]; exact f2))
    rw [← hm] at HRC
    have hlen : (dec (val (bs t) / 10 ^ n)).length ≤ t.size + 1 := by
      rw [← f1, ← trimZ_dec _ (all_take hta _)]
      have := trimZ_len ((bs t).take (t.size - n))
      rw [List.length_take, bs_length] at this
      omega
    obtain ⟨Q, hQ⟩ : ∃ Q, val (bs t) / 10 ^ n = Q := ⟨_, rfl⟩
    rw [hQ] at hlen HTR HRC
    obtain ⟨q, hq⟩ : ∃ q, ofL (dec Q) = q := ⟨_, rfl⟩
    have HQ := Lib.hid hq
    have hqm : (Q % 10 : Nat) % 2 = Q % 2 := by omega
    have HDIG := Lib.hid (fun (w : World) => by rw [← hq]; exact l02Digit_dec Q w (by omega) : ∀ w : World, Calls Tryz.prog 122 #[.string q, .int .i64 0] w fun e w' => e = .returned (.int .i64 ((Q % 10 : Nat) : Int)) ∧ w' = w)
    have HADD := Lib.hid (fun (w : World) => by rw [← hq]; exact l02Add_one Q w (by omega) : ∀ w : World, Calls Tryz.prog 123 #[.string q, .string ⟨#[49]⟩] w fun e w' => e = .returned (.string (ofL (dec (Q + 1)))) ∧ Below w.heap.size w w')
    have htail := bs_tail t (t.size - n)
    obtain ⟨y, hy⟩ : ∃ y, t.extract (t.size - n) t.size = y := ⟨_, rfl⟩
    rw [← htail, hy] at HRC
    have HY := Lib.hid hy
    have hz := size_ofL (zs m)
    rw [zs_len] at hz
    have hzn := size_ofL (zs n)
    rw [zs_len] at hzn
    have HSZ := Lib.hid (show (t.extract 0 (t.size - n)).size ≤ 1099511627776 by rw [← bs_length, bs_front, List.length_take, bs_length]; omega)
    obtain ⟨V, hV⟩ : ∃ V, roundV (val (bs t)) n = V := ⟨_, rfl⟩
    rw [hV] at HRC ⊢
    have HT := Lib.hid ht
    have hi1 : 0 ≤ (t.size : Int) - (n : Int) := by omega
    have hi2 : (t.size : Int) - (n : Int) ≤ (t.size : Int) := by omega
    have hi3 : ((t.size : Int) - (n : Int)).toNat = t.size - n := by omega
    have hi4 : (n : Int) - 1 = (m : Int) := by omega
    have hno : ¬ (9223372036854775807 < 1 + m) := by omega
    have hno2 : ¬ (9223372036854775807 < n + s.size) := by omega
    have hHl : ((⟨#[53]⟩ : ByteArray) ++ ofL (zs m)).toList = 53 :: zs m := by rw [toList_bs, bs_app, bs_ofL]; rfl
    have hyl : y.toList = bs y := toList_bs y
    have htsz : t.size ≤ 274877906944 := by omega
    rcases HRC.out with ⟨r1, r2, r3⟩ | ⟨r1, r2, r3⟩ | ⟨r1, r2, r3⟩ | ⟨r1, r2, r3⟩
    · have t1 : Op.bytesLess y.toList ((⟨#[53]⟩ : ByteArray) ++ ofL (zs m)).toList = false := by rw [hHl, hyl]; exact r1
      have t2 : ¬ (y.toList = ((⟨#[53]⟩ : ByteArray) ++ ofL (zs m)).toList) := by rw [hHl, hyl]; exact r2
      have R3 := Lib.hid r3
      clear hq hlen htail hy hV hQ hlx f1 f2 hc h0 hm r1 r2 r3 hHl hyl HRC ht htb htv hta hts hqm
      go_enter Tryz.func94, Tryz.ntmps94
      go_wp2_with fail
      refine (l02Zeros_any n _ (by omega)).mono ?_
      rintro e w1 ⟨rfl, hb1⟩
      have HB1 := Lib.hid hb1
      clear hb1
      go_wp2_with fail
      rw [HT.out]
      go_quiet ((go_at_call 93; exact Calls.quiet_of_same (l02Trim_any _ _ HSZ.out)))
      rw [HTR.out, HQ.out, HY.out]
      go_wp2_with fail
      refine (l02Zeros_any m _ (by omega)).mono ?_
      rintro e w2 ⟨rfl, hb2⟩
      have HB2 := Lib.hid ((Go.below_drewN HB1.out nq).trans (hb2.mono HB1.out.size))
      clear hb2
      go_wp2_with fail
      refine (HADD.out _).mono ?_
      rintro e w4 ⟨rfl, hb4⟩
      have HB4 := Lib.hid (HB2.out.trans (hb4.mono HB2.out.size))
      clear hb4
      go_wp2
      go_ret
      exact ⟨ret_str (by rw [R3.out]), HB4.out⟩
    · have t1 : Op.bytesLess y.toList ((⟨#[53]⟩ : ByteArray) ++ ofL (zs m)).toList = true := by rw [hHl, hyl]; exact r1
      have t2 : ¬ (y.toList = ((⟨#[53]⟩ : ByteArray) ++ ofL (zs m)).toList) := by rw [hHl, hyl]; exact r2
      have R3 := Lib.hid r3
      clear hq hlen htail hy hV hQ hlx f1 f2 hc h0 hm r1 r2 r3 hHl hyl HRC ht htb htv hta hts hqm
      go_enter Tryz.func94, Tryz.ntmps94
      go_wp2_with fail
      refine (l02Zeros_any n _ (by omega)).mono ?_
      rintro e w1 ⟨rfl, hb1⟩
      have HB1 := Lib.hid hb1
      clear hb1
      go_wp2_with fail
      rw [HT.out]
      go_quiet ((go_at_call 93; exact Calls.quiet_of_same (l02Trim_any _ _ HSZ.out)))
      rw [HTR.out, HQ.out, HY.out]
      go_wp2_with fail
      refine (l02Zeros_any m _ (by omega)).mono ?_
      rintro e w2 ⟨rfl, hb2⟩
      have HB2 := Lib.hid ((Go.below_drewN HB1.out nq).trans (hb2.mono HB1.out.size))
      clear hb2
      go_wp2
      go_ret
      exact ⟨ret_str (by rw [R3.out, HQ.out]), HB2.out⟩
    · have t2 : y.toList = ((⟨#[53]⟩ : ByteArray) ++ ofL (zs m)).toList := by rw [hHl, hyl]; exact r1
      have t3 : Op.bytesLess ((⟨#[53]⟩ : ByteArray) ++ ofL (zs m)).toList ((⟨#[53]⟩ : ByteArray) ++ ofL (zs m)).toList = false := less_self _
      have t1 : Op.bytesLess y.toList ((⟨#[53]⟩ : ByteArray) ++ ofL (zs m)).toList = false := by rw [t2]; exact less_self _
      have t4 : (((Q : Int) % 10 % 2) == 1) = true := by first | (rw [beq_iff_eq]; omega) | (rw [beq_eq_false_iff_ne]; omega)
      have R3 := Lib.hid r3
      clear hq hlen htail hy hV hQ hlx f1 f2 hc h0 hm r1 r2 r3 hHl hyl HRC ht htb htv hta hts hqm
      go_enter Tryz.func94, Tryz.ntmps94
      go_wp2_with fail
      refine (l02Zeros_any n _ (by omega)).mono ?_
      rintro e w1 ⟨rfl, hb1⟩
      have HB1 := Lib.hid hb1
      clear hb1
      go_wp2_with fail
      rw [HT.out]
      go_quiet ((go_at_call 93; exact Calls.quiet_of_same (l02Trim_any _ _ HSZ.out)))
      rw [HTR.out, HQ.out, HY.out]
      go_wp2_with fail
      refine (l02Zeros_any m _ (by omega)).mono ?_
      rintro e w2 ⟨rfl, hb2⟩
      have HB2 := Lib.hid ((Go.below_drewN HB1.out nq).trans (hb2.mono HB1.out.size))
      clear hb2
      go_wp2_with fail
      refine (HDIG.out _).mono ?_
      rintro e w3 ⟨rfl, hw3⟩
      obtain rfl : w2 = w3 := hw3.symm
      go_wp2_with fail
      refine (HADD.out _).mono ?_
      rintro e w4 ⟨rfl, hb4⟩
      have HB4 := Lib.hid (HB2.out.trans (hb4.mono HB2.out.size))
      clear hb4
      go_wp2
      go_ret
      exact ⟨ret_str (by rw [R3.out]), HB4.out⟩
    · have t2 : y.toList = ((⟨#[53]⟩ : ByteArray) ++ ofL (zs m)).toList := by rw [hHl, hyl]; exact r1
      have t3 : Op.bytesLess ((⟨#[53]⟩ : ByteArray) ++ ofL (zs m)).toList ((⟨#[53]⟩ : ByteArray) ++ ofL (zs m)).toList = false := less_self _
      have t1 : Op.bytesLess y.toList ((⟨#[53]⟩ : ByteArray) ++ ofL (zs m)).toList = false := by rw [t2]; exact less_self _
      have t4 : (((Q : Int) % 10 % 2) == 1) = false := by first | (rw [beq_iff_eq]; omega) | (rw [beq_eq_false_iff_ne]; omega)
      have R3 := Lib.hid r3
      clear hq hlen htail hy hV hQ hlx f1 f2 hc h0 hm r1 r2 r3 hHl hyl HRC ht htb htv hta hts hqm
      go_enter Tryz.func94, Tryz.ntmps94
      go_wp2_with fail
      refine (l02Zeros_any n _ (by omega)).mono ?_
      rintro e w1 ⟨rfl, hb1⟩
      have HB1 := Lib.hid hb1
      clear hb1
      go_wp2_with fail
      rw [HT.out]
      go_quiet ((go_at_call 93; exact Calls.quiet_of_same (l02Trim_any _ _ HSZ.out)))
      rw [HTR.out, HQ.out, HY.out]
      go_wp2_with fail
      refine (l02Zeros_any m _ (by omega)).mono ?_
      rintro e w2 ⟨rfl, hb2⟩
      have HB2 := Lib.hid ((Go.below_drewN HB1.out nq).trans (hb2.mono HB1.out.size))
      clear hb2
      go_wp2_with fail
      refine (HDIG.out _).mono ?_
      rintro e w3 ⟨rfl, hw3⟩
      obtain rfl : w2 = w3 := hw3.symm
      go_wp2
      go_ret
      exact ⟨ret_str (by rw [R3.out, HQ.out]), HB2.out⟩
end Go.Proofs.YtjjpdoabagnmoaaGreatDoor

/-
  The contract of dividing naturals, the program's: the quotient's row and the rest's. Conditions: a row of digits and a canonical row that is not 0, no longer than 2 to the 38.
-/
import Derived.Test.YtjjpdoabagnmoaaDoorDivs
import Derived.Test.YtjjpdoabagnmoaaDoorRounds
import Derived.Test.YtjjpdoabagnmoaaDoorNatSub
import Derived.Lib.SmallJoins
namespace Go.Proofs.YtjjpdoabagnmoaaDoor
open Go.RowKit
set_option linter.unusedVariables false
set_option linter.unusedSimpArgs false

theorem bs_one (s : ByteArray) (k : Nat) (h : k < s.size) : bs (s.extract k (k + 1)) = [s[k]] := by
  show (s.extract k (k + 1)).data.toList = _
  rw [Lib.extract_data, show s.data.toList = bs s from rfl, bs_drop s k h, show k + 1 - k = 1 by omega, List.take_succ_cons, List.take_zero]
theorem bs_snoc (l : List UInt8) (s : ByteArray) (k : Nat) (h : k < s.size) : bs (ofL l ++ s.extract k (k + 1)) = l ++ [s[k]] := by
  rw [bs_app, bs_one s k h, bs_ofL]
theorem Fill.on {w wa w1 : World} {g n : Nat} {f : Nat → Value} (h : Fill w wa g n f) (hb : Below wa.heap.size wa w1) : Fill w w1 g n f :=
  ⟨h.below.trans (hb.mono h.below.size), h.lo, Nat.lt_of_lt_of_le h.hi hb.size, fun j hj => by rw [hb.cell (p := ⟨g, j, none⟩) h.hi]; exact h.cell j hj, fun j hj => by rw [hb.frozen (p := ⟨g, j, none⟩) h.hi]; exact h.free j hj⟩
/-- the digit at a place from the front -/
theorem dgt_front {s : ByteArray} {A k m : Nat} (hs : (bs s).all isDig = true) (hA : val (bs s) = A) (hk : k < s.size) (hm : s.size - k = m + 1) : isDig s[k] = true ∧ s[k].toNat - 48 = dgt A m := by
  have h1 := dgt_val (bs s) hs m (by rw [bs_length]; omega)
  have e : (bs s)[(bs s).length - 1 - m]'(by rw [bs_length]; omega) = s[k] := by
    rw [← bs_get s k hk]
    congr 1
    rw [bs_length]; omega
  rw [e, hA] at h1
  refine ⟨?_, h1.symm⟩
  rw [List.all_eq_true] at hs
  exact hs _ (bs_mem s k hk)
theorem cmp_ge (a b : Nat) : 0 ≤ cmpN a b ↔ b ≤ a := by
  unfold cmpN
  split
  · omega
  · split <;> omega

set_option maxRecDepth 10000 in
set_option maxHeartbeats 1000000 in
theorem natDiv_any (s t : ByteArray) (w : World) (hs : (bs s).all isDig = true) (ht : Canon (bs t)) (hs' : s.size ≤ 274877906944) (ht' : t.size ≤ 274877906944) (h0 : 0 < val (bs t)) :
    Calls Tryd.prog 82 #[.string s, .string t] w fun e w' => e = .returned (.tuple #[.string (ofL (dec (val (bs s) / val (bs t)))), .string (ofL (dec (val (bs s) % val (bs t))))]) ∧ Below w.heap.size w w' := by
  have hmk := makeBytes s.size (by omega)
  have HF := Lib.hid (fillBytes w s.size)
  have HS := Lib.hid hs
  have HT := Lib.hid ht
  obtain ⟨A, hA⟩ : ∃ A, val (bs s) = A := ⟨_, rfl⟩
  obtain ⟨B, hB⟩ : ∃ B, val (bs t) = B := ⟨_, rfl⟩
  have hA' := val_lt (bs s) hs
  have hB' := val_lt (bs t) ht.dig
  rw [bs_length, hA] at hA'
  rw [bs_length, hB] at hB'
  rw [hB] at h0
  have HA := Lib.hid hA
  have HB := Lib.hid hB
  have HLA := Lib.hid hA'
  have HLB := Lib.hid hB'
  have H0 := Lib.hid h0
  have HDG := Lib.hid (fun k m (hk : k < s.size) (hm : s.size - k = m + 1) => dgt_front hs hA hk hm)
  rw [hA, hB]
  clear hs ht hA hB hA' hB' h0
  go_enter Tryd.func82, Tryd.ntmps82
  go_wp2
  clear hmk
  go_loopw [7, 15] (fun r i wr => ∃ k : Nat, k ≤ s.size ∧ i = .int .i64 k ∧ r = .string (ofL (dec (A / 10 ^ (s.size - k) % B))) ∧ Fill w wr w.heap.size s.size (fun j => if j < k then .int .u8 (48 + (dgt (A / B) (s.size - 1 - j) : Nat)) else .int .u8 0)) (fun _ i _ => s.size - (intOf i).toNat)
  case atStart =>
    refine ⟨0, Nat.zero_le _, rfl, ?_, HF.out.congr (fun j hj => by rw [if_neg (by omega)])⟩
    rw [Nat.sub_zero, Nat.div_eq_of_lt HLA.out, Nat.zero_mod, dec_zero]; rfl
  case round =>
    obtain ⟨k, hk, rfl, rfl, hfill⟩ := hrel
    have HI := Lib.hid hfill
    clear hfill
    by_cases hlt : k < s.size
    · rename World => wa
      obtain ⟨m, hm⟩ : ∃ m, s.size - k = m + 1 := ⟨s.size - k - 1, by omega⟩
      rw [hm]
      obtain ⟨p1, p2, p3⟩ := div_step (A := A) (B := B) (m := m) H0.out
      obtain ⟨q1, q2⟩ := HDG.out k m hlt hm
      have hlr : (dec (A / 10 ^ (m + 1) % B)).length ≤ t.size + 1 := dec_len_lt HLB.out (by have := Nat.mod_lt (A / 10 ^ (m + 1)) H0.out; omega)
      have htr := trim_snoc (A / 10 ^ (m + 1) % B) s[k] q1
      have hbb := bs_snoc (dec (A / 10 ^ (m + 1) % B)) s k hlt
      rw [q2] at htr
      obtain ⟨r, hr⟩ : ∃ r, A / 10 ^ (m + 1) % B = r := ⟨_, rfl⟩
      rw [hr] at p1 p2 p3 hlr htr hbb ⊢
      obtain ⟨R, hR⟩ : ∃ R, 10 * r + dgt A m = R := ⟨_, rfl⟩
      rw [hR] at p1 p2 p3 htr
      obtain ⟨Q, hQ⟩ : ∃ Q, R / B = Q := ⟨_, rfl⟩
      have P1 := Lib.hid p1
      have P2 := Lib.hid p2
      have P3 := Lib.hid p3
      have HTR := Lib.hid htr
      have HBB := Lib.hid hbb
      have hsz := size_ofL (dec r)
      have hno : ¬ (9223372036854775807 < (dec r).length + (min (k + 1) s.size - k)) := by omega
      have hkn : (k : Int) < (s.size : Int) := by omega
      clear p1 p2 p3 htr hbb hr hR q1 q2 hQ
      go_wp2_with fail
      refine (trimNat_any _ _).mono ?_
      rintro e w1 ⟨rfl, hw1⟩
      obtain rfl : wa = w1 := hw1.symm
      rw [HBB.out, HTR.out]
      clear hw1
      go_wp2
      go_loopw [7, 9] (fun v d wr => ∃ x : Nat, v = .string (ofL (dec (R - B * x))) ∧ d = .int .u8 (48 + (x : Int)) ∧ B * x ≤ R ∧ Below wa.heap.size wa wr) (fun _ d _ => 100 - (intOf d).toNat)
      case atStart =>
        exact ⟨0, by rw [Nat.mul_zero, Nat.sub_zero], rfl, by omega, Below.refl _ _⟩
      case round =>
        obtain ⟨x, rfl, rfl, hx, hb⟩ := hrel
        have HBW := Lib.hid hb
        have HX := Lib.hid hx
        have hx9 := left_nine P3.out hx
        clear hb
        have hl2 : (dec (R - B * x)).length ≤ t.size + 1 := dec_len_lt HLB.out (by have := P3.out; omega)
        have HCN := Lib.hid (show Canon (bs (ofL (dec (R - B * x)))) by rw [bs_ofL]; exact dec_canon _)
        have hsz2 := size_ofL (dec (R - B * x))
        go_wp2_with fail
        refine (natCmp_any _ t _ HCN.out HT.out (by omega) (by omega)).mono ?_
        rintro e w1 ⟨rfl, hb1⟩
        rw [bs_ofL, val_dec, HB.out]
        have HB1 := Lib.hid (HBW.out.trans (hb1.mono HBW.out.size))
        clear hb1
        by_cases hge : B ≤ R - B * x
        · have hc := (cmp_ge (R - B * x) B).2 hge
          have HGE := Lib.hid hge
          generalize cmpN (R - B * x) B = z at hc
          clear hge hx
          go_wp2_with fail
          refine (natSub_any _ t _ HCN.out.dig HT.out.dig (by omega) (by omega) (by rw [bs_ofL, val_dec, HB.out]; exact HGE.out)).mono ?_
          rintro e w2 ⟨rfl, hb2⟩
          rw [bs_ofL, val_dec, HB.out]
          have HB2 := Lib.hid (HB1.out.trans (hb2.mono HB1.out.size))
          clear hb2
          go_wp2
          obtain ⟨m1, m2⟩ := left_more HX.out HGE.out
          exact ⟨⟨x + 1, by rw [m2], by go_num, m1, HB2.out⟩, by simp [intOf]; omega⟩
        · have hc : cmpN (R - B * x) B < 0 := by
            rw [← Int.not_le]; exact fun h => hge ((cmp_ge (R - B * x) B).1 h)
          obtain ⟨d1, d2⟩ := left_div H0.out hx (by omega)
          have D1 := Lib.hid d1
          have D2 := Lib.hid d2
          generalize cmpN (R - B * x) B = z at hc
          clear hge hx d1 d2
          have hlow := HI.out.hi
          have HK := Lib.hid (HI.out.on HB1.out)
          have hs0 := HK.out.cell k hlt
          have hf0 := HK.out.free k hlt
          rw [if_neg (by omega)] at hs0
          go_wp2
          refine ⟨⟨k + 1, by omega, by go_num, by rw [D2.out, P2.out, show s.size - (k + 1) = m by omega], ?_⟩, by simp [intOf]; omega⟩
          refine (HK.out.store hlt _).congr ?_
          intro j hj
          by_cases e : j = k
          · rw [if_pos e, e, if_pos (by omega), show s.size - 1 - k = m by omega, ← P1.out, ← D1.out]
          · rw [if_neg e]
            by_cases e1 : j < k
            · rw [if_pos e1, if_pos (by omega)]
            · rw [if_neg e1, if_neg (by omega)]
    · obtain rfl : k = s.size := by omega
      have hconv := textOfDigs (cap := s.size) (HI.out.congr (fun j hj => if_pos (by omega)))
      have HTD := Lib.hid (trimZ_digs (Nat.lt_of_le_of_lt (Nat.div_le_self A B) HLA.out))
      have hz : s.size - s.size = 0 := by omega
      rw [hz, Nat.pow_zero, Nat.div_one]
      clear hz
      go_wp2_with fail
      refine (trimNat_any _ _).mono ?_
      rintro e w1 ⟨rfl, rfl⟩
      rw [bs_ofL, HTD.out]
      go_wp2
      refine bodyPost_ret (v := .tuple #[.string (ofL (dec (A / B))), .string (ofL (dec (A % B)))]) (by simp [results, Tryd.results82, go_sem, *]) rfl ⟨rfl, ?_⟩
      exact HI.out.below
end Go.Proofs.YtjjpdoabagnmoaaDoor

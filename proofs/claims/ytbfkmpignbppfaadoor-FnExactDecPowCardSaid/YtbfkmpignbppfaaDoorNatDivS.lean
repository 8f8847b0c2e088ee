/-
  The contract of dividing naturals, the reference's: the quotient's row and the rest's. Conditions: rows of digits, no longer than 2 to the 38; the second is not 0.
-/
import Derived.Test.YtbfkmpignbppfaaDoorNatDiv
import Derived.Test.YtbfkmpignbppfaaDoorNatSubS
namespace Go.Proofs.YtbfkmpignbppfaaDoor
open Go.RowKit
set_option linter.unusedVariables false
set_option linter.unusedSimpArgs false

/-- the first k places of a row of n -/
theorem digs_front (v n k : Nat) (h : k < n) : (digs v n).take (k + 1) = (digs v n).take k ++ [UInt8.ofNat (48 + dgt v (n - 1 - k))] := by
  rw [List.take_succ_eq_append_getElem (by rw [digs_length]; exact h), digs_get n v k h]

set_option maxRecDepth 10000 in
set_option maxHeartbeats 1000000 in
theorem l02Div_any (s t : ByteArray) (w : World) (hs : (bs s).all isDig = true) (ht : (bs t).all isDig = true) (hs' : s.size ≤ 274877906944) (ht' : t.size ≤ 274877906944) (h0 : 0 < val (bs t)) :
    Calls Tryd.prog 63 #[.string s, .string t] w fun e w' => e = .returned (.tuple #[.string (ofL (dec (val (bs s) / val (bs t)))), .string (ofL (dec (val (bs s) % val (bs t))))]) ∧ Below w.heap.size w w' := by
  obtain ⟨i0, hinf, hy0, hy1, hy2⟩ := info_parts infoByte
  have HS := Lib.hid hs
  have HT := Lib.hid ht
  obtain ⟨A, hA⟩ : ∃ A, val (bs s) = A := ⟨_, rfl⟩
  obtain ⟨B, hB⟩ : ∃ B, val (bs t) = B := ⟨_, rfl⟩
  have hA' := val_lt (bs s) hs
  have hB' := val_lt (bs t) ht
  rw [bs_length, hA] at hA'
  rw [bs_length, hB] at hB'
  rw [hB] at h0
  have HA := Lib.hid hA
  have HB := Lib.hid hB
  have HLA := Lib.hid hA'
  have HLB := Lib.hid hB'
  have H0 := Lib.hid h0
  have HDG := Lib.hid (fun k m (hk : k < s.size) (hm : s.size - k = m + 1) => dgt_front hs hA hk hm)
  rw [hA, hB]
  clear hs ht hA hB hA' hB' h0
  go_enter Tryd.func63, Tryd.ntmps63
  go_wp2
  go_loopw [6, 7, 8] (fun v r i wr => ∃ (k g cap : Nat), k ≤ s.size ∧ i = .int .i64 k ∧ r = .string (ofL (dec (A / 10 ^ (s.size - k) % B))) ∧ v = .slice (some ⟨g, 0, none⟩) k cap ∧ wr.ownsRow w.heap.size 5 1 (.slice (some ⟨g, 0, none⟩) k cap) k (((digs (A / B) s.size).take k).map byteV) ∧ Below w.heap.size w wr) (fun _ _ i _ => s.size - (intOf i).toNat)
  case atStart =>
    refine ⟨0, w.heap.size, 0, Nat.zero_le _, rfl, ?_, rfl, ownsRow_empty _ _ _ (Nat.le_refl _), (Below.refl _ _).alloc (Nat.le_refl _) _⟩
    rw [Nat.sub_zero, Nat.div_eq_of_lt HLA.out, Nat.zero_mod, dec_zero]; rfl
  case round =>
    obtain ⟨k, g, cap, hk, rfl, rfl, rfl, hown, hb⟩ := hrel
    have HOW := Lib.hid hown
    have HBA := Lib.hid hb
    have hlowa := hb.size
    clear hown hb
    by_cases hlt : k < s.size
    · rename World => wa
      obtain ⟨m, hm⟩ : ∃ m, s.size - k = m + 1 := ⟨s.size - k - 1, by omega⟩
      rw [hm]
      obtain ⟨p1, p2, p3⟩ := div_step (A := A) (B := B) (m := m) H0.out
      obtain ⟨q1, q2⟩ := HDG.out k m hlt hm
      have hlr : (dec (A / 10 ^ (m + 1) % B)).length ≤ t.size + 1 := dec_len_lt HLB.out (by have := Nat.mod_lt (A / 10 ^ (m + 1)) H0.out; omega)
      have htr := trim_snoc (A / 10 ^ (m + 1) % B) s[k] q1
      have hbb := bs_snoc (dec (A / 10 ^ (m + 1) % B)) s k hlt
      rw [q2] at htr
      obtain ⟨r, hr⟩ : ∃ r, A / 10 ^ (m + 1) % B = r := ⟨_, rfl⟩
      rw [hr] at p1 p2 p3 hlr htr hbb ⊢
      obtain ⟨R, hR⟩ : ∃ R, 10 * r + dgt A m = R := ⟨_, rfl⟩
      rw [hR] at p1 p2 p3 htr
      obtain ⟨Q, hQ⟩ : ∃ Q, R / B = Q := ⟨_, rfl⟩
      have P1 := Lib.hid p1
      have P2 := Lib.hid p2
      have P3 := Lib.hid p3
      have HTR := Lib.hid htr
      have HBB := Lib.hid hbb
      have hsz := size_ofL (dec r)
      have hbl := bs_length (ofL (dec r) ++ s.extract k (k + 1))
      rw [hbb, List.length_append] at hbl
      have hsl : (ofL (dec r) ++ s.extract k (k + 1)).size ≤ 1099511627776 := by rw [← hbl]; simp; omega
      have hno : ¬ (9223372036854775807 < (dec r).length + (min (k + 1) s.size - k)) := by omega
      have hkn : (k : Int) < (s.size : Int) := by omega
      have HSL := Lib.hid hsl
      clear p1 p2 p3 htr hbb hr hR q1 q2 hQ hbl hsl
      go_wp2_with fail
      refine (l02Trim_any _ _ HSL.out).mono ?_
      rintro e w1 ⟨rfl, hw1⟩
      obtain rfl : wa = w1 := hw1.symm
      rw [HBB.out, HTR.out]
      clear hw1
      go_wp2
      go_loopw [7, 9] (fun v d wr => ∃ x : Nat, v = .string (ofL (dec (R - B * x))) ∧ d = .int .i64 (x : Int) ∧ B * x ≤ R ∧ Below wa.heap.size wa wr) (fun _ d _ => 100 - (intOf d).toNat)
      case atStart =>
        exact ⟨0, by rw [Nat.mul_zero, Nat.sub_zero], rfl, by omega, Below.refl _ _⟩
      case round =>
        obtain ⟨x, rfl, rfl, hx, hb⟩ := hrel
        have HBW := Lib.hid hb
        have HX := Lib.hid hx
        have hx9 := left_nine P3.out hx
        clear hb
        have hl2 : (dec (R - B * x)).length ≤ t.size + 1 := dec_len_lt HLB.out (by have := P3.out; omega)
        have HCN := Lib.hid (show Canon (bs (ofL (dec (R - B * x)))) by rw [bs_ofL]; exact dec_canon _)
        have hsz2 := size_ofL (dec (R - B * x))
        go_wp2_with fail
        refine (l02Cmp_any _ t _ HCN.out.dig HT.out (by omega) (by omega)).mono ?_
        rintro e w1 ⟨rfl, hw1⟩
        obtain rfl : wr = w1 := hw1.symm
        rw [bs_ofL, val_dec, HB.out]
        by_cases hge : B ≤ R - B * x
        · have hc := (cmp_ge (R - B * x) B).2 hge
          have HGE := Lib.hid hge
          generalize cmpN (R - B * x) B = z at hc
          clear hge hx hw1
          go_wp2_with fail
          refine (l02Sub_any _ t _ HCN.out.dig HT.out (by omega) (by omega) (by rw [bs_ofL, val_dec, HB.out]; exact HGE.out)).mono ?_
          rintro e w2 ⟨rfl, hb2⟩
          rw [bs_ofL, val_dec, HB.out]
          have HB2 := Lib.hid (HBW.out.trans (hb2.mono HBW.out.size))
          clear hb2
          go_wp2
          obtain ⟨m1, m2⟩ := left_more HX.out HGE.out
          exact ⟨⟨x + 1, by rw [m2], by go_num, m1, HB2.out⟩, by simp [intOf]; omega⟩
        · have hc : cmpN (R - B * x) B < 0 := by
            rw [← Int.not_le]; exact fun h => hge ((cmp_ge (R - B * x) B).1 h)
          obtain ⟨d1, d2⟩ := left_div H0.out hx (by omega)
          have D1 := Lib.hid d1
          have D2 := Lib.hid d2
          generalize cmpN (R - B * x) B = z at hc
          clear hge hx d1 d2 hw1
          have HOW2 := Lib.hid (ownsRow_below HOW.out HBW.out)
          have HBC := Lib.hid (HBA.out.trans (HBW.out.mono hlowa))
          have hlowr := HBC.out.size
          have hx0 : 0 ≤ 48 + (x : Int) := by omega
          have hx1 : 48 + (x : Int) ≤ 57 := by omega
          go_wp2_with (at_builtin; refine wpList_append_own _ rfl _ _ 62 rfl w.heap.size 5 i0 (.int .u8 0) 1 1 Tryd.underlying62 hinf hy0 hy1 hy2 rfl (by decide) _ _ _ rfl (HOW2.out.alloc _) ⟨wr.heap.size, 0, none⟩ 1 1 [.int .u8 (48 + (x : Int))] rfl rfl (ownsRow_news (ownsRow_one wr w.heap.size 5 _ hlowr)) (fun u hu => by simp at hu; subst hu; rfl) (by unfold maxLen; omega) (by omega) (by simp; omega) ?_; intro v2 w2 hown2 hgr2 hnil2)
          obtain ⟨g2, cap2, rfl, hg2, hg2'⟩ := ownsRow_some hown2 (by omega)
          have hbz : Below w.heap.size w w2 := Below.grown (HBC.out.alloc hlowr _) hgr2 (by simp; omega) (ownBlock_lo HOW2.out)
          refine ⟨⟨k + 1, g2, cap2, by omega, by go_num, by rw [D2.out, P2.out, show s.size - (k + 1) = m by omega], rfl, ?_, hbz⟩, by simp [intOf]; omega⟩
          rw [digs_front _ _ _ hlt, List.map_append, show s.size - 1 - k = m by omega, ← P1.out, ← D1.out]
          have hx5 : [UInt8.ofNat (48 + x)].map byteV = [.int .u8 (48 + (x : Int))] := by
            simp only [List.map_cons, List.map_nil]; unfold byteV; rw [ofNat_val (by omega)]
          rw [hx5]
          exact hown2
    · obtain rfl : k = s.size := by omega
      have hconv := textOfOwned HOW.out
      have htk : (digs (A / B) s.size).take s.size = digs (A / B) s.size := List.take_of_length_le (by rw [digs_length]; exact Nat.le_refl _)
      rw [htk] at hconv
      have HTD := Lib.hid (trimZ_digs (Nat.lt_of_le_of_lt (Nat.div_le_self A B) HLA.out))
      have hz : s.size - s.size = 0 := by omega
      rw [hz, Nat.pow_zero, Nat.div_one]
      clear hz htk
      go_wp2_with fail
      refine (l02Trim_any _ _ (by rw [size_ofL, digs_length]; omega)).mono ?_
      rintro e w1 ⟨rfl, rfl⟩
      rw [bs_ofL, HTD.out]
      go_wp2
      refine bodyPost_ret (v := .tuple #[.string (ofL (dec (A / B))), .string (ofL (dec (A % B)))]) (by simp [results, Tryd.results63, go_sem, *]) rfl ⟨rfl, ?_⟩
      exact HBA.out
end Go.Proofs.YtbfkmpignbppfaaDoor

/-
  The walk of FnExactCsvRead, out of the contracts. Condition: the tables of unicode utf8 stand in memory, as the card ties them.
-/
import Derived.Test.YthpdmipgnoidpaaDoorCsvSpec
import Derived.Test.YthpdmipgnoidpaaDoorCsvImpl
import Derived.Test.YthpdmipgnoidpaaDoorRowHeld
namespace Go.Proofs.YthpdmipgnoidpaaDoor
open Go.RowKit
set_option linter.unusedVariables false
set_option linter.unusedSimpArgs false

set_option maxRecDepth 10000 in
theorem fnExactCsvRead_walk (w : World) (hT : Tabs w) (s : ByteArray) (hs : s.size ≤ maxLen) :
    Calls Tryd.prog 4 #[.string s] w fun e w' => e = .returned (.bool true) ∧ Below w.heap.size w w' := by
  have HT := Lib.hid hT
  clear hT
  unfold maxLen at hs
  by_cases hbs : 1048576 < s.size
  · go_enter Tryd.func4, Tryd.ntmps4
    go_wp2
    go_ret
    exact ⟨rfl, Below.refl _ _⟩
  have hzs : s.size ≤ 1048576 := by omega
  obtain ⟨hlen, hlr⟩ : (csvT s).1.length ≤ 100000 ∧ ∀ r ∈ (csvT s).1, r.length ≤ 100000 := csvT_len s
  obtain ⟨x, hx⟩ : ∃ x, (csvT s).2.1 = x := ⟨_, rfl⟩
  obtain ⟨y, hy⟩ : ∃ y, (csvT s).2.2 = y := ⟨_, rfl⟩
  obtain ⟨n, hn⟩ : ∃ n, (csvT s).1.length = n := ⟨_, rfl⟩
  rw [hn] at hlen
  have HX := Lib.hid hx
  have HY := Lib.hid hy
  have HN := Lib.hid hn
  have HLR := Lib.hid hlr
  have hxx : ((x : Int) != (x : Int)) = false := by simp
  have hyy : ((y : Int) != (y : Int)) = false := by simp
  clear hx hy hn hlr
  have HQL := Lib.hid (fun (Q : List RowQ) (B : Nat) (v : Value) (T : Nat) (W : World) (h : ssOf Q = rowsS (csvT s).1) (hi : RowsIn W B v Q T) => (⟨ssOf_len h |>.trans HN.out, rows_small h hi (N := 100000) HLR.out⟩ : Q.length = n ∧ ∀ q ∈ Q, q.l ≤ 100000))
  go_enter Tryd.func4, Tryd.ntmps4
  go_wp2_with fail
  refine (specCsvRead_any s _ (by omega)).mono ?_
  rintro e w1 ⟨v0, Q0, rfl, hss0, hin0, hb1⟩
  rw [HX.out, HY.out]
  obtain ⟨hn0, hq0⟩ := HQL.out _ _ _ _ _ hss0 hin0
  obtain ⟨a0, c0, rfl⟩ : ∃ a c, v0 = .slice a n c := by rw [← hn0]; exact ownsRow_slice hin0.outer
  have HB1 := Lib.hid hb1
  have HI0 := Lib.hid hin0
  have HS0 := Lib.hid hss0
  have HN0 := Lib.hid hn0
  have HQ0 := Lib.hid hq0
  clear hb1 hin0 hss0 hn0 hq0
  go_wp2_with fail
  refine (implCsvRead_any s _ (by omega) (HT.out.below HB1.out)).mono ?_
  rintro e w2 ⟨v1, Q1, rfl, hss1, hin1, hb2⟩
  rw [HX.out, HY.out]
  obtain ⟨hn1, hq1⟩ := HQL.out _ _ _ _ _ hss1 hin1
  obtain ⟨a1, c1, rfl⟩ : ∃ a c, v1 = .slice a n c := by rw [← hn1]; exact ownsRow_slice hin1.outer
  have HB2 := Lib.hid (HB1.out.trans (hb2.mono HB1.out.size))
  have HB12 := Lib.hid hb2
  have hzA := hb2.size
  have HI02 := Lib.hid (RowsOf.below HI0.out hb2)
  have HI1 := Lib.hid hin1
  have HS1 := Lib.hid hss1
  have HN1 := Lib.hid hn1
  have HQ1 := Lib.hid hq1
  clear hb2 hin1 hss1 hn1 hq1
  go_wp2_with fail
  refine (eqRowS_owned _ HI1.out HI02.out HN1.out HN0.out (HS1.out.trans HS0.out.symm) (by omega) HQ1.out).mono ?_
  rintro e w3 ⟨rfl, hb3⟩
  have HB3 := Lib.hid (HB2.out.trans (hb3.mono HB2.out.size))
  have HB13 := Lib.hid (HB12.out.trans (hb3.mono hzA))
  have hzB := hb3.size
  have HI13 := Lib.hid (RowsOf.below HI1.out hb3)
  have HI03 := Lib.hid (RowsOf.below HI02.out hb3)
  clear hb3
  have hz1 : w1.heap.size ≤ w3.heap.size := Nat.le_trans hzA hzB
  go_wp2_with fail
  refine (markRowS_any w1.heap.size _ a1 c1 n Q1 _ HI13.out HN1.out (by omega) HQ1.out hz1).mono ?_
  rintro e w4 ⟨rfl, hown4, hb4⟩
  obtain ⟨m, hm⟩ : ∃ m : Int, ((1 + offs Q1 n : Nat) : Int) = m := ⟨_, rfl⟩
  have hm0 : 0 ≤ m := by omega
  have hmm : (m != m) = false := by simp
  rw [hm]
  have HM := Lib.hid hm
  have HI14 := Lib.hid hown4
  have HB4 := Lib.hid (HB3.out.trans (hb4.mono HB1.out.size))
  have HI04 := Lib.hid (RowsOf.below HI0.out (HB13.out.trans hb4))
  clear hm hb4 hown4
  go_wp2_with fail
  refine (heldRowS_any w1.heap.size _ a1 c1 n Q1 _ HI14.out HN1.out (by omega) HQ1.out).mono ?_
  rintro e w5 ⟨rfl, hb5⟩
  rw [HM.out]
  have HB5 := Lib.hid (HB4.out.trans (hb5.mono HB4.out.size))
  have HI15 := Lib.hid (RowsOf.below HI14.out hb5)
  have HI05 := Lib.hid (RowsOf.below HI04.out hb5)
  clear hb5
  go_wp2_with fail
  refine (implCsvRead_any s _ (by omega) (HT.out.below HB5.out)).mono ?_
  rintro e w6 ⟨v2, Q2, rfl, hss2, hin2, hb6⟩
  rw [HX.out, HY.out]
  obtain ⟨hn2, hq2⟩ := HQL.out _ _ _ _ _ hss2 hin2
  obtain ⟨a2, c2, rfl⟩ : ∃ a c, v2 = .slice a n c := by rw [← hn2]; exact ownsRow_slice hin2.outer
  have HB6 := Lib.hid (HB5.out.trans (hb6.mono HB5.out.size))
  have HI16 := Lib.hid (RowsOf.below HI15.out hb6)
  have HI06 := Lib.hid (RowsOf.below HI05.out hb6)
  have HI2 := Lib.hid hin2
  have HS2 := Lib.hid hss2
  have HN2 := Lib.hid hn2
  have HQ2 := Lib.hid hq2
  clear hb6 hin2 hss2 hn2 hq2
  go_wp2_with fail
  refine (eqRowS_owned _ HI2.out HI06.out HN2.out HN0.out (HS2.out.trans HS0.out.symm) (by omega) HQ2.out).mono ?_
  rintro e w7 ⟨rfl, hb7⟩
  have HB7 := Lib.hid (HB6.out.trans (hb7.mono HB6.out.size))
  have HI17 := Lib.hid (RowsOf.below HI16.out hb7)
  clear hb7
  go_wp2_with fail
  refine (heldRowS_any w1.heap.size _ a1 c1 n Q1 _ HI17.out HN1.out (by omega) HQ1.out).mono ?_
  rintro e w8 ⟨rfl, hb8⟩
  rw [HM.out]
  have HB8 := Lib.hid (HB7.out.trans (hb8.mono HB7.out.size))
  clear hb8
  go_wp2
  go_ret
  exact ⟨rfl, HB8.out⟩
end Go.Proofs.YthpdmipgnoidpaaDoor

/-
  The walk of FnExactBlanks, out of the contracts. Condition: the tables of unicode utf8 stand in memory, as the card ties them.
-/
import Derived.Test.YtnleemcddhpanaaDoorBlanks
import Derived.Test.YtnleemcddhpanaaDoorStrMarks
namespace Go.Proofs.YtnleemcddhpanaaDoor
open Go.RowKit
set_option linter.unusedVariables false
set_option linter.unusedSimpArgs false

set_option maxRecDepth 10000 in
theorem fnExactBlanks_walk (w : World) (hT : Tabs w) (s : ByteArray) (hs : s.size ≤ maxLen) :
    Calls Tryd.prog 3 #[.string s] w fun e w' => e = .returned (.bool true) ∧ Below w.heap.size w w' := by
  have HT := Lib.hid hT
  clear hT
  unfold maxLen at hs
  by_cases hbs : 1048576 < s.size
  · go_enter Tryd.func3, Tryd.ntmps3
    go_wp2
    go_ret
    exact ⟨rfl, Below.refl _ _⟩
  have hzs : s.size ≤ 1048576 := by omega
  have hlen := blanksT_len s hzs
  obtain ⟨n, hn⟩ : ∃ n, (blanksT s).length = n := ⟨_, rfl⟩
  rw [hn] at hlen
  have HN := Lib.hid hn
  clear hn
  go_enter Tryd.func3, Tryd.ntmps3
  go_wp2_with fail
  refine (specBlanks_any s _ (by omega)).mono ?_
  rintro e w1 ⟨v0, rfl, hown0, hb1⟩
  obtain ⟨a0, c0, rfl⟩ := ownsRow_slice hown0
  rw [HN.out] at hown0 ⊢
  have HB1 := Lib.hid hb1
  have HO0 := Lib.hid hown0
  clear hb1 hown0
  go_wp2_with fail
  refine (implBlanks_any s _ (by omega) (HT.out.below HB1.out)).mono ?_
  rintro e w2 ⟨v1, rfl, hown1, hb2⟩
  obtain ⟨a1, c1, rfl⟩ := ownsRow_slice hown1
  rw [HN.out] at hown1 ⊢
  have HB2 := Lib.hid (HB1.out.trans (hb2.mono HB1.out.size))
  have HB12 := Lib.hid hb2
  have hzA := hb2.size
  have HO02 := Lib.hid (ownsRow_below HO0.out hb2)
  have HO1 := Lib.hid hown1
  clear hb2 hown1
  go_wp2_with fail
  refine (eqStringS_owned _ _ HO1.out HO02.out (by omega)).mono ?_
  rintro e w3 ⟨rfl, hb3⟩
  have HB3 := Lib.hid (HB2.out.trans (hb3.mono HB2.out.size))
  have HB13 := Lib.hid (HB12.out.trans (hb3.mono hzA))
  have hzB := hb3.size
  have HO13 := Lib.hid (ownsRow_below HO1.out hb3)
  clear hb3
  have hz1 : w1.heap.size ≤ w3.heap.size := Nat.le_trans hzA hzB
  go_wp2_with fail
  refine (markStringS_one w1.heap.size a1 c1 n _ _ HO13.out hz1 (by omega)).mono ?_
  rintro e w4 ⟨rfl, hown4, hb4⟩
  obtain ⟨m, hm⟩ : ∃ m : Int, ((n + 1 : Nat) : Int) = m := ⟨_, rfl⟩
  have hm0 : 0 ≤ m := by omega
  have hmm : (m != m) = false := by simp
  rw [hm]
  have HM := Lib.hid hm
  have HO14 := Lib.hid hown4
  have HB4 := Lib.hid (HB3.out.trans (hb4.mono HB1.out.size))
  have HO04 := Lib.hid (ownsRow_below HO0.out (HB13.out.trans hb4))
  clear hm hb4 hown4
  go_wp2_with fail
  refine (heldStringS_one w1.heap.size a1 c1 n _ HO14.out (by omega)).mono ?_
  rintro e w5 ⟨rfl, hb5⟩
  rw [HM.out]
  have HB5 := Lib.hid (HB4.out.trans (hb5.mono HB4.out.size))
  have HO15 := Lib.hid (ownsRow_below HO14.out hb5)
  have HO05 := Lib.hid (ownsRow_below HO04.out hb5)
  clear hb5
  go_wp2_with fail
  refine (implBlanks_any s _ (by omega) (HT.out.below HB5.out)).mono ?_
  rintro e w6 ⟨v2, rfl, hown2, hb6⟩
  obtain ⟨a2, c2, rfl⟩ := ownsRow_slice hown2
  rw [HN.out] at hown2 ⊢
  have HB6 := Lib.hid (HB5.out.trans (hb6.mono HB5.out.size))
  have HO16 := Lib.hid (ownsRow_below HO15.out hb6)
  have HO06 := Lib.hid (ownsRow_below HO05.out hb6)
  have HO2 := Lib.hid hown2
  clear hb6 hown2
  go_wp2_with fail
  refine (eqStringS_owned _ _ HO2.out HO06.out (by omega)).mono ?_
  rintro e w7 ⟨rfl, hb7⟩
  have HB7 := Lib.hid (HB6.out.trans (hb7.mono HB6.out.size))
  have HO17 := Lib.hid (ownsRow_below HO16.out hb7)
  clear hb7
  go_wp2_with fail
  refine (heldStringS_one w1.heap.size a1 c1 n _ HO17.out (by omega)).mono ?_
  rintro e w8 ⟨rfl, hb8⟩
  rw [HM.out]
  have HB8 := Lib.hid (HB7.out.trans (hb8.mono HB7.out.size))
  clear hb8
  go_wp2
  go_ret
  exact ⟨rfl, HB8.out⟩
end Go.Proofs.YtnleemcddhpanaaDoor

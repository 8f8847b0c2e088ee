/-
  The walk of FnDecDivides, out of the contracts. No condition.
-/
import Derived.Test.YtjjpdoabagnmoaaDoorBig
import Derived.Test.YtjjpdoabagnmoaaDoorDrawDecs
import Derived.Test.YtjjpdoabagnmoaaDoorDividesLaw
import Derived.Test.YtjjpdoabagnmoaaDoorDecMulWalk
import Derived.Test.YtjjpdoabagnmoaaDoorDecDivWalk
import Derived.Test.YtjjpdoabagnmoaaDoorDecTwo
namespace Go.Proofs.YtjjpdoabagnmoaaDoor
open Go.RowKit
set_option linter.unusedVariables false
set_option linter.unusedSimpArgs false

set_option maxRecDepth 10000 in
set_option maxHeartbeats 8000000 in
theorem fnDecDivides_walk (w : World) (a : Option Addr) (len cap : Nat) (z : List Int) (hr : IsRow .u8 w a len cap z) :
    Calls Tryd.prog 6 #[.slice a len cap] w fun e w' => e = .returned (.bool true) ∧ Below w.heap.size w w' := by
  obtain ⟨-, -, hmax, -⟩ := isRow_row hr
  by_cases hb : 1048576 < len
  · have HBG := Lib.hid (decide_eq_true hb)
    go_enter Tryd.func6, Tryd.ntmps6
    go_wp2_with fail
    refine (big_any a len cap _ hmax).mono ?_
    rintro e w1 ⟨rfl, hw1⟩
    obtain rfl : w = w1 := hw1.symm
    rw [HBG.out]
    go_wp2
    go_ret
    exact ⟨rfl, Below.refl _ _⟩
  · have HBG := Lib.hid (decide_eq_false hb)
    go_enter Tryd.func6, Tryd.ntmps6
    go_wp2_with fail
    refine (big_any a len cap _ hmax).mono ?_
    rintro e w1 ⟨rfl, hw1⟩
    obtain rfl : w = w1 := hw1.symm
    rw [HBG.out]
    go_wp2_with fail
    refine (drawDecMul_any a len cap z _ hr (by omega)).mono ?_
    rintro e w2 ⟨n, s, x, m, t, y, rfl, ⟨hs, ht⟩, ⟨hx, hy⟩, hb2⟩
    have hsm : s.size ≤ maxLen := by unfold maxLen; omega
    have htm : t.size ≤ maxLen := by unfold maxLen; omega
    have hxw := wf_of hx
    have hyw := wf_of hy
    go_wp2_with fail
    obtain ⟨w3, hw3, hz3, hv3, hc3⟩ := two_laid w2 n s x m t y
    rw [hw3]
    have hB3 := hb2.trans (hv3.mono hb2.size)
    have hlo : w.heap.size ≤ w2.heap.size := hb2.size
    clear hw3 hb2 hv3
    refine (specDecOk_any n s x _ hsm hxw).mono ?_
    rintro e w4 ⟨rfl, hb4⟩
    obtain ⟨hB4, hz4, hc4⟩ := two_kept hb4 hz3 hB3 hc3
    clear hb4 hz3 hB3 hc3
    cases h1 : decOk n (bs s) x
    · go_wp2
      go_ret
      exact ⟨rfl, hB4⟩
    · go_wp2_with fail
      refine (specDecOk_any m t y _ htm hyw).mono ?_
      rintro e w5 ⟨rfl, hb5⟩
      obtain ⟨hB5, hz5, hc5⟩ := two_kept hb5 hz4 hB4 hc4
      clear hb5 hz4 hB4 hc4
      cases h2 : decOk m (bs t) y
      · go_wp2
        go_ret
        exact ⟨rfl, hB5⟩
      · by_cases hg : s.size ≤ 10 ∧ t.size ≤ 10 ∧ 0 < t.size ∧ -40 ≤ x ∧ x ≤ 30 ∧ -40 ≤ y ∧ y ≤ 30
        · obtain ⟨g1, g2, g3, g4, g5, g6, g7⟩ := hg
          have hemp := isEmpty_no g3
          have k1 : ¬ (10 : Int) < (s.size : Int) := by omega
          have k2 : ¬ (10 : Int) < (t.size : Int) := by omega
          obtain ⟨n2, u, v, hM, hok, hu, hD⟩ := divides_law h1 h2 g1 g2 g3 g4 g5 g6 g7
          obtain ⟨-, u2, u3, -⟩ := dec_facts hok
          have HM := Lib.hid (fun w => by
            have := implDecMul_yes n s x m t y w hsm hxw htm hyw h1 h2
            rw [hM] at this
            exact this : ∀ w : World, Calls Tryd.prog 18 #[.agg #[.bool n, .string s, .int .i64 x], .agg #[.bool m, .string t, .int .i64 y]] w fun e w' => e = .returned (.tuple #[.agg #[.bool n2, .string u, .int .i64 v], .int .i64 0]) ∧ Below w.heap.size w w')
          have HD := Lib.hid (fun w => by
            have := implDecDiv_yes n2 u v m t y w (by unfold maxLen; omega) (wf_of ⟨by omega, by omega⟩) htm hyw hok h2
            rw [hD] at this
            exact this : ∀ w : World, Calls Tryd.prog 24 #[.agg #[.bool n2, .string u, .int .i64 v], .agg #[.bool m, .string t, .int .i64 y]] w fun e w' => e = .returned (.tuple #[.agg #[.bool n, .string s, .int .i64 x], .int .i64 0]) ∧ Below w.heap.size w w')
          clear hM hD hok u2 u3
          go_wp2_with fail
          refine (HM.out _).mono ?_
          rintro e w6 ⟨rfl, hb6⟩
          obtain ⟨hB6, hz6, hc6⟩ := two_kept hb6 hz5 hB5 hc5
          clear hb6 hz5 hB5 hc5
          go_wp2_with fail
          obtain ⟨w7, hw7, hz7, hv7, hc7, hf7⟩ := one_laid w6 n2 u v
          rw [hw7]
          obtain ⟨hB7, hy7, hd7⟩ := two_kept hv7 hz6 hB6 hc6
          clear hw7 hv7 hz6 hB6 hc6
          refine (HD.out _).mono ?_
          rintro e w8 ⟨rfl, hb8⟩
          obtain ⟨hB8, hz8, hc8⟩ := two_kept hb8 hy7 hB7 hd7
          clear hb8 hy7 hB7 hd7
          go_wp2
          go_ret
          refine ⟨?_, hB8.alloc (by have := hB8.size; omega) _⟩
          simp
        · by_cases g3 : 0 < t.size
          · have hemp := isEmpty_no g3
            go_wp2_with fail
            all_goals first
              | (exfalso; omega)
              | (go_ret; exact ⟨rfl, hB5⟩)
          · have hemp := isEmpty_yes (s := t) (by omega)
            go_wp2_with fail
            all_goals first
              | (exfalso; omega)
              | (go_ret; exact ⟨rfl, hB5⟩)
end Go.Proofs.YtjjpdoabagnmoaaDoor

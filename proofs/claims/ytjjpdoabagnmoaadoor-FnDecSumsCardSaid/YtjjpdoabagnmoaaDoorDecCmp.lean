/-
  The contracts of both sides' DecCmp. Condition: numbers in form.
-/
import Derived.Test.YtjjpdoabagnmoaaDoorThree
import Derived.Test.YtjjpdoabagnmoaaDoorDecSum
import Derived.Test.YtjjpdoabagnmoaaDoorDecTwo
import Derived.Test.YtjjpdoabagnmoaaDoorDecNg
import Derived.Deep.CutRange
namespace Go.Proofs.YtjjpdoabagnmoaaDoor
open Go.RowKit
set_option linter.unusedVariables false
set_option linter.unusedSimpArgs false

set_option maxRecDepth 10000 in
set_option maxHeartbeats 1000000 in
theorem decCmp_any (n : Bool) (s : ByteArray) (x : Int) (m : Bool) (t : ByteArray) (y : Int) (w : World) (h1 : decOk n (bs s) x = true) (h2 : decOk m (bs t) y = true) :
    Calls Tryd.prog 38 #[.agg #[.bool n, .string s, .int .i64 x], .agg #[.bool m, .string t, .int .i64 y]] w fun e w' => e = .returned (.int .i64 (cmpS n (lvl s x y) m (lvl t y x))) ∧ Below w.heap.size w w' := by
  obtain ⟨a1, a2, a3, a4, a5, a6, a7, an, -⟩ := dec_facts h1
  obtain ⟨b1, b2, b3, b4, b5, b6, b7, bn, -⟩ := dec_facts h2
  have lx := lvl_len h1 b2
  have ly := lvl_len h2 a2
  have hAL := fun w => aligned_any n s x m t y w h1 h2
  obtain ⟨X, hX⟩ : ∃ X, lvl s x y = X := ⟨_, rfl⟩
  obtain ⟨Y, hY⟩ : ∃ Y, lvl t y x = Y := ⟨_, rfl⟩
  rw [hX] at lx hAL ⊢
  rw [hY] at ly hAL ⊢
  have HAL := Lib.hid hAL
  have hs1 := size_ofL (dec X)
  have hs2 := size_ofL (dec Y)
  have hC := Lib.hid (fun w => by
    have := natCmp_any (ofL (dec X)) (ofL (dec Y)) w (by rw [bs_ofL]; exact dec_canon X) (by rw [bs_ofL]; exact dec_canon Y) (by omega) (by omega)
    rw [bs_ofL, bs_ofL, val_dec, val_dec] at this
    exact this : ∀ w : World, Calls Tryd.prog 71 #[.string (ofL (dec X)), .string (ofL (dec Y))] w fun e w' => e = .returned (.int .i64 (cmpN X Y)) ∧ Below w.heap.size w w')
  have hD := Lib.hid (fun w => by
    have := natCmp_any (ofL (dec Y)) (ofL (dec X)) w (by rw [bs_ofL]; exact dec_canon Y) (by rw [bs_ofL]; exact dec_canon X) (by omega) (by omega)
    rw [bs_ofL, bs_ofL, val_dec, val_dec] at this
    exact this : ∀ w : World, Calls Tryd.prog 71 #[.string (ofL (dec Y)), .string (ofL (dec X))] w fun e w' => e = .returned (.int .i64 (cmpN Y X)) ∧ Below w.heap.size w w')
  clear h1 h2 a4 b4 a5 b5 hX hY hAL lx ly hs1 hs2 an bn
  cases n
  · cases m
    · have e0 : cmpS false X false Y = cmpN X Y := rfl
      rw [e0]
      go_enter Tryd.func38, Tryd.ntmps38
      go_wp2_with fail
      refine (HAL.out _).mono ?_
      rintro e w1 ⟨rfl, hb1⟩
      obtain ⟨w0, hw0, hz0, hb0, hc0⟩ := two_laid w false s x false t y
      rw [hw0] at hb1
      obtain ⟨hv1, hz1, hc1⟩ := two_kept hb1 hz0 hb0 hc0
      clear hw0 hz0 hb0 hc0 hb1
      go_wp2_with fail
      refine (hC.out _).mono ?_
      rintro e w2 ⟨rfl, hb2⟩
      go_wp2
      go_ret
      exact ⟨rfl, hv1.trans (hb2.mono hv1.size)⟩
    · have e0 : cmpS false X true Y = 1 := rfl
      rw [e0]
      go_enter Tryd.func38, Tryd.ntmps38
      go_wp2_with fail
      refine (HAL.out _).mono ?_
      rintro e w1 ⟨rfl, hb1⟩
      obtain ⟨w0, hw0, hz0, hb0, hc0⟩ := two_laid w false s x true t y
      rw [hw0] at hb1
      obtain ⟨hv1, hz1, hc1⟩ := two_kept hb1 hz0 hb0 hc0
      clear hw0 hz0 hb0 hc0 hb1
      go_wp2
      go_ret
      exact ⟨rfl, hv1⟩
  · cases m
    · have e0 : cmpS true X false Y = -1 := rfl
      rw [e0]
      go_enter Tryd.func38, Tryd.ntmps38
      go_wp2_with fail
      refine (HAL.out _).mono ?_
      rintro e w1 ⟨rfl, hb1⟩
      obtain ⟨w0, hw0, hz0, hb0, hc0⟩ := two_laid w true s x false t y
      rw [hw0] at hb1
      obtain ⟨hv1, hz1, hc1⟩ := two_kept hb1 hz0 hb0 hc0
      clear hw0 hz0 hb0 hc0 hb1
      go_wp2
      go_ret
      exact ⟨rfl, hv1⟩
    · have e0 : cmpS true X true Y = cmpN Y X := rfl
      rw [e0]
      go_enter Tryd.func38, Tryd.ntmps38
      go_wp2_with fail
      refine (HAL.out _).mono ?_
      rintro e w1 ⟨rfl, hb1⟩
      obtain ⟨w0, hw0, hz0, hb0, hc0⟩ := two_laid w true s x true t y
      rw [hw0] at hb1
      obtain ⟨hv1, hz1, hc1⟩ := two_kept hb1 hz0 hb0 hc0
      clear hw0 hz0 hb0 hc0 hb1
      go_wp2_with fail
      refine (hD.out _).mono ?_
      rintro e w2 ⟨rfl, hb2⟩
      go_wp2
      go_ret
      exact ⟨rfl, hv1.trans (hb2.mono hv1.size)⟩

theorem implDecCmp_no (n : Bool) (s : ByteArray) (x : Int) (m : Bool) (t : ByteArray) (y : Int) (w : World) (hs : s.size ≤ maxLen) (hx : (Lit.int .i64 x).wf = true) (ht : t.size ≤ maxLen) (hy : (Lit.int .i64 y).wf = true) (h : decOk n (bs s) x = false ∨ decOk m (bs t) y = false) :
    Calls Tryd.prog 16 #[.agg #[.bool n, .string s, .int .i64 x], .agg #[.bool m, .string t, .int .i64 y]] w fun e w' => e = .returned (.int .i64 2) ∧ Below w.heap.size w w' := by
  cases h1 : decOk n (bs s) x
  · go_enter Tryd.func16, Tryd.ntmps16
    go_wp2_with fail
    refine (isDec_any n s x _ hs hx).mono ?_
    rintro e w1 ⟨rfl, hb1⟩
    rw [h1]
    obtain ⟨w0, hw0, hz0, hb0, hc0⟩ := two_laid w n s x m t y
    rw [hw0] at hb1
    obtain ⟨hv1, hz1, hc1⟩ := two_kept hb1 hz0 hb0 hc0
    clear hw0 hz0 hb0 hc0 hb1
    go_wp2
    go_ret
    exact ⟨rfl, hv1⟩
  · have h2 : decOk m (bs t) y = false := by simpa [h1] using h
    go_enter Tryd.func16, Tryd.ntmps16
    go_wp2_with fail
    refine (isDec_any n s x _ hs hx).mono ?_
    rintro e w1 ⟨rfl, hb1⟩
    rw [h1]
    obtain ⟨w0, hw0, hz0, hb0, hc0⟩ := two_laid w n s x m t y
    rw [hw0] at hb1
    obtain ⟨hv1, hz1, hc1⟩ := two_kept hb1 hz0 hb0 hc0
    clear hw0 hz0 hb0 hc0 hb1
    go_wp2_with fail
    refine (isDec_any m t y _ ht hy).mono ?_
    rintro e w2 ⟨rfl, hb2⟩
    rw [h2]
    obtain ⟨hv2, hz2, hc2⟩ := two_kept hb2 hz1 hv1 hc1
    clear hz1 hv1 hc1 hb2
    go_wp2
    go_ret
    exact ⟨rfl, hv2⟩


theorem implDecCmp_yes (n : Bool) (s : ByteArray) (x : Int) (m : Bool) (t : ByteArray) (y : Int) (w : World) (hs : s.size ≤ maxLen) (hx : (Lit.int .i64 x).wf = true) (ht : t.size ≤ maxLen) (hy : (Lit.int .i64 y).wf = true) (h1 : decOk n (bs s) x = true) (h2 : decOk m (bs t) y = true) :
    Calls Tryd.prog 16 #[.agg #[.bool n, .string s, .int .i64 x], .agg #[.bool m, .string t, .int .i64 y]] w fun e w' => e = .returned (.int .i64 (cmpS n (lvl s x y) m (lvl t y x))) ∧ Below w.heap.size w w' := by
  have hI := Lib.hid (fun w => decCmp_any n s x m t y w h1 h2)
  go_enter Tryd.func16, Tryd.ntmps16
  go_wp2_with fail
  refine (isDec_any n s x _ hs hx).mono ?_
  rintro e w1 ⟨rfl, hb1⟩
  rw [h1]
  obtain ⟨w0, hw0, hz0, hb0, hc0⟩ := two_laid w n s x m t y
  rw [hw0] at hb1
  obtain ⟨hv1, hz1, hc1⟩ := two_kept hb1 hz0 hb0 hc0
  clear hw0 hz0 hb0 hc0 hb1
  go_wp2_with fail
  refine (isDec_any m t y _ ht hy).mono ?_
  rintro e w2 ⟨rfl, hb2⟩
  rw [h2]
  obtain ⟨hv2, hz2, hc2⟩ := two_kept hb2 hz1 hv1 hc1
  clear hz1 hv1 hc1 hb2
  go_wp2_with fail
  refine (hI.out _).mono ?_
  rintro e w3 ⟨rfl, hb3⟩
  go_wp2
  go_ret
  exact ⟨rfl, hv2.trans (hb3.mono hv2.size)⟩

end Go.Proofs.YtjjpdoabagnmoaaDoor

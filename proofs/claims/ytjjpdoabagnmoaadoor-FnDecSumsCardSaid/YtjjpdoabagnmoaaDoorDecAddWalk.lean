/-
  The contracts of both sides' DecAdd. Condition: numbers in form.
-/
import Derived.Test.YtjjpdoabagnmoaaDoorThree
import Derived.Test.YtjjpdoabagnmoaaDoorDecAdd
import Derived.Test.YtjjpdoabagnmoaaDoorDecSum
namespace Go.Proofs.YtjjpdoabagnmoaaDoor
open Go.RowKit
set_option linter.unusedVariables false
set_option linter.unusedSimpArgs false

theorem implDecAdd_no (n : Bool) (s : ByteArray) (x : Int) (m : Bool) (t : ByteArray) (y : Int) (w : World) (hs : s.size ≤ maxLen) (hx : (Lit.int .i64 x).wf = true) (ht : t.size ≤ maxLen) (hy : (Lit.int .i64 y).wf = true) (h : decOk n (bs s) x = false ∨ decOk m (bs t) y = false) :
    Calls Tryd.prog 15 #[.agg #[.bool n, .string s, .int .i64 x], .agg #[.bool m, .string t, .int .i64 y]] w fun e w' => e = .returned (.tuple #[.agg #[.bool false, .string ⟨#[]⟩, .int .i64 0], .int .i64 3]) ∧ Below w.heap.size w w' := by
  have hn0 : ¬ (w.heap.size = w.heap.size + 1 + 1) := by omega
  have hn1 : ¬ (w.heap.size + 1 + 1 = w.heap.size) := by omega
  cases h1 : decOk n (bs s) x
  · go_enter Tryd.func15, Tryd.ntmps15
    go_wp2_with fail
    refine (isDec_any n s x _ hs hx).mono ?_
    rintro e w1 ⟨rfl, hb1⟩
    rw [h1]
    obtain ⟨w0, hw0, hz0, hb0, hc0, hr0⟩ := three_laid w n s x m t y
    rw [hw0] at hb1
    obtain ⟨hv1, hz1, hc1, hr1⟩ := three_kept hb1 hz0 hb0 hc0 hr0
    clear hw0 hz0 hb0 hc0 hr0 hb1
    go_wp2
    refine bodyPost_ret (v := .tuple #[.agg #[.bool false, .string ⟨#[]⟩, .int .i64 0], .int .i64 3]) (by simp [results, Tryd.results15, go_sem, *]) rfl ⟨rfl, ?_⟩
    exact set_three hv1 (by omega) _ _ _
  · have h2 : decOk m (bs t) y = false := by simpa [h1] using h
    go_enter Tryd.func15, Tryd.ntmps15
    go_wp2_with fail
    refine (isDec_any n s x _ hs hx).mono ?_
    rintro e w1 ⟨rfl, hb1⟩
    rw [h1]
    obtain ⟨w0, hw0, hz0, hb0, hc0, hr0⟩ := three_laid w n s x m t y
    rw [hw0] at hb1
    obtain ⟨hv1, hz1, hc1, hr1⟩ := three_kept hb1 hz0 hb0 hc0 hr0
    clear hw0 hz0 hb0 hc0 hr0 hb1
    go_wp2_with fail
    refine (isDec_any m t y _ ht hy).mono ?_
    rintro e w2 ⟨rfl, hb2⟩
    rw [h2]
    obtain ⟨hv2, hz2, hc2, hr2⟩ := three_kept hb2 hz1 hv1 hc1 hr1
    clear hz1 hv1 hc1 hr1 hb2
    go_wp2
    refine bodyPost_ret (v := .tuple #[.agg #[.bool false, .string ⟨#[]⟩, .int .i64 0], .int .i64 3]) (by simp [results, Tryd.results15, go_sem, *]) rfl ⟨rfl, ?_⟩
    exact set_three hv2 (by omega) _ _ _

theorem specDecAdd_no (n : Bool) (s : ByteArray) (x : Int) (m : Bool) (t : ByteArray) (y : Int) (w : World) (hs : s.size ≤ maxLen) (hx : (Lit.int .i64 x).wf = true) (ht : t.size ≤ maxLen) (hy : (Lit.int .i64 y).wf = true) (h : decOk n (bs s) x = false ∨ decOk m (bs t) y = false) :
    Calls Tryd.prog 17 #[.agg #[.bool n, .string s, .int .i64 x], .agg #[.bool m, .string t, .int .i64 y]] w fun e w' => e = .returned (.tuple #[.agg #[.bool false, .string ⟨#[]⟩, .int .i64 0], .int .i64 3]) ∧ Below w.heap.size w w' := by
  have hn0 : ¬ (w.heap.size = w.heap.size + 1 + 1) := by omega
  have hn1 : ¬ (w.heap.size + 1 + 1 = w.heap.size) := by omega
  cases h1 : decOk n (bs s) x
  · go_enter Tryd.func17, Tryd.ntmps17
    go_wp2_with fail
    refine (specDecOk_any n s x _ hs hx).mono ?_
    rintro e w1 ⟨rfl, hb1⟩
    rw [h1]
    obtain ⟨w0, hw0, hz0, hb0, hc0, hr0⟩ := three_laid w n s x m t y
    rw [hw0] at hb1
    obtain ⟨hv1, hz1, hc1, hr1⟩ := three_kept hb1 hz0 hb0 hc0 hr0
    clear hw0 hz0 hb0 hc0 hr0 hb1
    go_wp2
    refine bodyPost_ret (v := .tuple #[.agg #[.bool false, .string ⟨#[]⟩, .int .i64 0], .int .i64 3]) (by simp [results, Tryd.results17, go_sem, *]) rfl ⟨rfl, ?_⟩
    exact set_three hv1 (by omega) _ _ _
  · have h2 : decOk m (bs t) y = false := by simpa [h1] using h
    go_enter Tryd.func17, Tryd.ntmps17
    go_wp2_with fail
    refine (specDecOk_any n s x _ hs hx).mono ?_
    rintro e w1 ⟨rfl, hb1⟩
    rw [h1]
    obtain ⟨w0, hw0, hz0, hb0, hc0, hr0⟩ := three_laid w n s x m t y
    rw [hw0] at hb1
    obtain ⟨hv1, hz1, hc1, hr1⟩ := three_kept hb1 hz0 hb0 hc0 hr0
    clear hw0 hz0 hb0 hc0 hr0 hb1
    go_wp2_with fail
    refine (specDecOk_any m t y _ ht hy).mono ?_
    rintro e w2 ⟨rfl, hb2⟩
    rw [h2]
    obtain ⟨hv2, hz2, hc2, hr2⟩ := three_kept hb2 hz1 hv1 hc1 hr1
    clear hz1 hv1 hc1 hr1 hb2
    go_wp2
    refine bodyPost_ret (v := .tuple #[.agg #[.bool false, .string ⟨#[]⟩, .int .i64 0], .int .i64 3]) (by simp [results, Tryd.results17, go_sem, *]) rfl ⟨rfl, ?_⟩
    exact set_three hv2 (by omega) _ _ _

set_option maxRecDepth 10000 in
set_option maxHeartbeats 1000000 in
theorem implDecAdd_yes (n : Bool) (s : ByteArray) (x : Int) (m : Bool) (t : ByteArray) (y : Int) (w : World) (hs : s.size ≤ maxLen) (hx : (Lit.int .i64 x).wf = true) (ht : t.size ≤ maxLen) (hy : (Lit.int .i64 y).wf = true) (h1 : decOk n (bs s) x = true) (h2 : decOk m (bs t) y = true) :
    Calls Tryd.prog 15 #[.agg #[.bool n, .string s, .int .i64 x], .agg #[.bool m, .string t, .int .i64 y]] w fun e w' => e = .returned (sumV n (lvl s x y) m (lvl t y x) (min x y)) ∧ Below w.heap.size w w' := by
  obtain ⟨n', u, y', c, hV, -, -, -⟩ := formV_lit (sumN n (lvl s x y) m (lvl t y x)).1 (sumN n (lvl s x y) m (lvl t y x)).2 (min x y)
  have hI := Lib.hid (fun w => by
    have := decAdd_any n s x m t y w h1 h2
    rw [sumV_N, hV] at this
    exact this : ∀ w : World, Calls Tryd.prog 37 #[.agg #[.bool n, .string s, .int .i64 x], .agg #[.bool m, .string t, .int .i64 y]] w fun e w' => e = .returned (.tuple #[.agg #[.bool n', .string u, .int .i64 y'], .int .i64 c]) ∧ Below w.heap.size w w')
  rw [sumV_N, hV]
  clear hV
  have hn0 : ¬ (w.heap.size = w.heap.size + 1 + 1) := by omega
  have hn1 : ¬ (w.heap.size + 1 + 1 = w.heap.size) := by omega
  go_enter Tryd.func15, Tryd.ntmps15
  go_wp2_with fail
  refine (isDec_any n s x _ hs hx).mono ?_
  rintro e w1 ⟨rfl, hb1⟩
  rw [h1]
  obtain ⟨w0, hw0, hz0, hb0, hc0, hr0⟩ := three_laid w n s x m t y
  rw [hw0] at hb1
  obtain ⟨hv1, hz1, hc1, hr1⟩ := three_kept hb1 hz0 hb0 hc0 hr0
  clear hw0 hz0 hb0 hc0 hr0 hb1
  go_wp2_with fail
  refine (isDec_any m t y _ ht hy).mono ?_
  rintro e w2 ⟨rfl, hb2⟩
  rw [h2]
  obtain ⟨hv2, hz2, hc2, hr2⟩ := three_kept hb2 hz1 hv1 hc1 hr1
  clear hz1 hv1 hc1 hr1 hb2
  clear h1 h2
  go_wp2_with fail
  refine (hI.out _).mono ?_
  rintro e w3 ⟨rfl, hb3⟩
  obtain ⟨hv3, hz3, hc3, hr3⟩ := three_kept hb3 hz2 hv2 hc2 hr2
  clear hb3 hz2 hv2 hc2 hr2
  clear hI
  go_wp2
  refine bodyPost_ret (v := .tuple #[.agg #[.bool n', .string u, .int .i64 y'], .int .i64 c]) (by simp [results, Tryd.results15, go_sem, *]) rfl ?_
  exact ⟨rfl, set_three (by assumption) (by omega) _ _ _⟩

set_option maxRecDepth 10000 in
set_option maxHeartbeats 1000000 in
theorem specDecAdd_yes (n : Bool) (s : ByteArray) (x : Int) (m : Bool) (t : ByteArray) (y : Int) (w : World) (hs : s.size ≤ maxLen) (hx : (Lit.int .i64 x).wf = true) (ht : t.size ≤ maxLen) (hy : (Lit.int .i64 y).wf = true) (h1 : decOk n (bs s) x = true) (h2 : decOk m (bs t) y = true) :
    Calls Tryd.prog 17 #[.agg #[.bool n, .string s, .int .i64 x], .agg #[.bool m, .string t, .int .i64 y]] w fun e w' => e = .returned (sumV n (lvl s x y) m (lvl t y x) (min x y)) ∧ Below w.heap.size w w' := by
  obtain ⟨n', u, y', c, hV, -, -, -⟩ := formV_lit (sumN n (lvl s x y) m (lvl t y x)).1 (sumN n (lvl s x y) m (lvl t y x)).2 (min x y)
  have hI := Lib.hid (fun w => by
    have := l03Sum_true n s x m t y w h1 h2
    rw [sumV_N, hV] at this
    exact this : ∀ w : World, Calls Tryd.prog 39 #[.agg #[.bool n, .string s, .int .i64 x], .agg #[.bool m, .string t, .int .i64 y], .bool true] w fun e w' => e = .returned (.tuple #[.agg #[.bool n', .string u, .int .i64 y'], .int .i64 c]) ∧ Below w.heap.size w w')
  rw [sumV_N, hV]
  clear hV
  have hn0 : ¬ (w.heap.size = w.heap.size + 1 + 1) := by omega
  have hn1 : ¬ (w.heap.size + 1 + 1 = w.heap.size) := by omega
  go_enter Tryd.func17, Tryd.ntmps17
  go_wp2_with fail
  refine (specDecOk_any n s x _ hs hx).mono ?_
  rintro e w1 ⟨rfl, hb1⟩
  rw [h1]
  obtain ⟨w0, hw0, hz0, hb0, hc0, hr0⟩ := three_laid w n s x m t y
  rw [hw0] at hb1
  obtain ⟨hv1, hz1, hc1, hr1⟩ := three_kept hb1 hz0 hb0 hc0 hr0
  clear hw0 hz0 hb0 hc0 hr0 hb1
  go_wp2_with fail
  refine (specDecOk_any m t y _ ht hy).mono ?_
  rintro e w2 ⟨rfl, hb2⟩
  rw [h2]
  obtain ⟨hv2, hz2, hc2, hr2⟩ := three_kept hb2 hz1 hv1 hc1 hr1
  clear hz1 hv1 hc1 hr1 hb2
  clear h1 h2
  go_wp2_with fail
  refine (hI.out _).mono ?_
  rintro e w3 ⟨rfl, hb3⟩
  obtain ⟨hv3, hz3, hc3, hr3⟩ := three_kept hb3 hz2 hv2 hc2 hr2
  clear hb3 hz2 hv2 hc2 hr2
  clear hI
  go_wp2
  refine bodyPost_ret (v := .tuple #[.agg #[.bool n', .string u, .int .i64 y'], .int .i64 c]) (by simp [results, Tryd.results17, go_sem, *]) rfl ?_
  exact ⟨rfl, set_three (by assumption) (by omega) _ _ _⟩

end Go.Proofs.YtjjpdoabagnmoaaDoor

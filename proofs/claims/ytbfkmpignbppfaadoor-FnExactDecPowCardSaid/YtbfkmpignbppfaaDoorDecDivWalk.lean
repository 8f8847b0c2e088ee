/-
  The walk of FnExactDecDiv, out of the contracts. Condition: numbers in form.
-/
import Derived.Test.YtbfkmpignbppfaaDoorThree
import Derived.Test.YtbfkmpignbppfaaDoorDecDiv
import Derived.Test.YtbfkmpignbppfaaDoorDecDivLaw
namespace Go.Proofs.YtbfkmpignbppfaaDoor
open Go.RowKit
set_option linter.unusedVariables false
set_option linter.unusedSimpArgs false

theorem decDiv_all (n : Bool) (s : ByteArray) (x : Int) (m : Bool) (t : ByteArray) (y : Int) (w : World) (h1 : decOk n (bs s) x = true) (h2 : decOk m (bs t) y = true) :
    Calls Tryd.prog 64 #[.agg #[.bool n, .string s, .int .i64 x], .agg #[.bool m, .string t, .int .i64 y]] w fun e w' => e = .returned (divV n s x m t y) ∧ Below w.heap.size w w' := by
  by_cases h0 : t.size = 0
  · exact decDiv_zero n s x m t y w h1 h2 h0
  · exact decDiv_any n s x m t y w h1 h2 (by omega)

theorem specDecDiv_yes (n : Bool) (s : ByteArray) (x : Int) (m : Bool) (t : ByteArray) (y : Int) (w : World) (hs : s.size ≤ maxLen) (hx : (Lit.int .i64 x).wf = true) (ht : t.size ≤ maxLen) (hy : (Lit.int .i64 y).wf = true) (h1 : decOk n (bs s) x = true) (h2 : decOk m (bs t) y = true) :
    Calls Tryd.prog 31 #[.agg #[.bool n, .string s, .int .i64 x], .agg #[.bool m, .string t, .int .i64 y]] w fun e w' => e = .returned (divV n s x m t y) ∧ Below w.heap.size w w' := by
  by_cases h0 : t.size = 0
  · exact specDecDiv_zero n s x m t y w hs hx ht hy h1 h2 h0
  · exact specDecDiv_any n s x m t y w hs hx ht hy h1 h2 (by omega)

theorem implDecDiv_no (n : Bool) (s : ByteArray) (x : Int) (m : Bool) (t : ByteArray) (y : Int) (w : World) (hs : s.size ≤ maxLen) (hx : (Lit.int .i64 x).wf = true) (ht : t.size ≤ maxLen) (hy : (Lit.int .i64 y).wf = true) (h : decOk n (bs s) x = false ∨ decOk m (bs t) y = false) :
    Calls Tryd.prog 32 #[.agg #[.bool n, .string s, .int .i64 x], .agg #[.bool m, .string t, .int .i64 y]] w fun e w' => e = .returned (.tuple #[.agg #[.bool false, .string ⟨#[]⟩, .int .i64 0], .int .i64 3]) ∧ Below w.heap.size w w' := by
  have hn0 : ¬ (w.heap.size = w.heap.size + 1 + 1) := by omega
  have hn1 : ¬ (w.heap.size + 1 + 1 = w.heap.size) := by omega
  cases h1 : decOk n (bs s) x
  · go_enter Tryd.func32, Tryd.ntmps32
    go_wp2_with fail
    refine (isDec_any n s x _ hs hx).mono ?_
    rintro e w1 ⟨rfl, hb1⟩
    rw [h1]
    obtain ⟨w0, hw0, hz0, hb0, hc0, hr0⟩ := three_laid w n s x m t y
    rw [hw0] at hb1
    obtain ⟨hv1, hz1, hc1, hr1⟩ := three_kept hb1 hz0 hb0 hc0 hr0
    clear hw0 hz0 hb0 hc0 hr0 hb1
    go_wp2
    refine bodyPost_ret (v := .tuple #[.agg #[.bool false, .string ⟨#[]⟩, .int .i64 0], .int .i64 3]) (by simp [results, Tryd.results32, go_sem, *]) rfl ⟨rfl, ?_⟩
    exact set_three hv1 (by omega) _ _ _
  · have h2 : decOk m (bs t) y = false := by simpa [h1] using h
    go_enter Tryd.func32, Tryd.ntmps32
    go_wp2_with fail
    refine (isDec_any n s x _ hs hx).mono ?_
    rintro e w1 ⟨rfl, hb1⟩
    rw [h1]
    obtain ⟨w0, hw0, hz0, hb0, hc0, hr0⟩ := three_laid w n s x m t y
    rw [hw0] at hb1
    obtain ⟨hv1, hz1, hc1, hr1⟩ := three_kept hb1 hz0 hb0 hc0 hr0
    clear hw0 hz0 hb0 hc0 hr0 hb1
    go_wp2_with fail
    refine (isDec_any m t y _ ht hy).mono ?_
    rintro e w2 ⟨rfl, hb2⟩
    rw [h2]
    obtain ⟨hv2, hz2, hc2, hr2⟩ := three_kept hb2 hz1 hv1 hc1 hr1
    clear hz1 hv1 hc1 hr1 hb2
    go_wp2
    refine bodyPost_ret (v := .tuple #[.agg #[.bool false, .string ⟨#[]⟩, .int .i64 0], .int .i64 3]) (by simp [results, Tryd.results32, go_sem, *]) rfl ⟨rfl, ?_⟩
    exact set_three hv2 (by omega) _ _ _

theorem specDecDiv_no (n : Bool) (s : ByteArray) (x : Int) (m : Bool) (t : ByteArray) (y : Int) (w : World) (hs : s.size ≤ maxLen) (hx : (Lit.int .i64 x).wf = true) (ht : t.size ≤ maxLen) (hy : (Lit.int .i64 y).wf = true) (h : decOk n (bs s) x = false ∨ decOk m (bs t) y = false) :
    Calls Tryd.prog 31 #[.agg #[.bool n, .string s, .int .i64 x], .agg #[.bool m, .string t, .int .i64 y]] w fun e w' => e = .returned (.tuple #[.agg #[.bool false, .string ⟨#[]⟩, .int .i64 0], .int .i64 3]) ∧ Below w.heap.size w w' := by
  have hn0 : ¬ (w.heap.size = w.heap.size + 1 + 1) := by omega
  have hn1 : ¬ (w.heap.size + 1 + 1 = w.heap.size) := by omega
  cases h1 : decOk n (bs s) x
  · go_enter Tryd.func31, Tryd.ntmps31
    go_wp2_with fail
    refine (specDecOk_any n s x _ hs hx).mono ?_
    rintro e w1 ⟨rfl, hb1⟩
    rw [h1]
    obtain ⟨w0, hw0, hz0, hb0, hc0, hr0⟩ := three_laid w n s x m t y
    rw [hw0] at hb1
    obtain ⟨hv1, hz1, hc1, hr1⟩ := three_kept hb1 hz0 hb0 hc0 hr0
    clear hw0 hz0 hb0 hc0 hr0 hb1
    go_wp2
    refine bodyPost_ret (v := .tuple #[.agg #[.bool false, .string ⟨#[]⟩, .int .i64 0], .int .i64 3]) (by simp [results, Tryd.results31, go_sem, *]) rfl ⟨rfl, ?_⟩
    exact set_three hv1 (by omega) _ _ _
  · have h2 : decOk m (bs t) y = false := by simpa [h1] using h
    go_enter Tryd.func31, Tryd.ntmps31
    go_wp2_with fail
    refine (specDecOk_any n s x _ hs hx).mono ?_
    rintro e w1 ⟨rfl, hb1⟩
    rw [h1]
    obtain ⟨w0, hw0, hz0, hb0, hc0, hr0⟩ := three_laid w n s x m t y
    rw [hw0] at hb1
    obtain ⟨hv1, hz1, hc1, hr1⟩ := three_kept hb1 hz0 hb0 hc0 hr0
    clear hw0 hz0 hb0 hc0 hr0 hb1
    go_wp2_with fail
    refine (specDecOk_any m t y _ ht hy).mono ?_
    rintro e w2 ⟨rfl, hb2⟩
    rw [h2]
    obtain ⟨hv2, hz2, hc2, hr2⟩ := three_kept hb2 hz1 hv1 hc1 hr1
    clear hz1 hv1 hc1 hr1 hb2
    go_wp2
    refine bodyPost_ret (v := .tuple #[.agg #[.bool false, .string ⟨#[]⟩, .int .i64 0], .int .i64 3]) (by simp [results, Tryd.results31, go_sem, *]) rfl ⟨rfl, ?_⟩
    exact set_three hv2 (by omega) _ _ _

set_option maxRecDepth 10000 in
set_option maxHeartbeats 1000000 in
theorem implDecDiv_yes (n : Bool) (s : ByteArray) (x : Int) (m : Bool) (t : ByteArray) (y : Int) (w : World) (hs : s.size ≤ maxLen) (hx : (Lit.int .i64 x).wf = true) (ht : t.size ≤ maxLen) (hy : (Lit.int .i64 y).wf = true) (h1 : decOk n (bs s) x = true) (h2 : decOk m (bs t) y = true) :
    Calls Tryd.prog 32 #[.agg #[.bool n, .string s, .int .i64 x], .agg #[.bool m, .string t, .int .i64 y]] w fun e w' => e = .returned (divV n s x m t y) ∧ Below w.heap.size w w' := by
  obtain ⟨n', u, y', c, hV⟩ := divV_lit n s x m t y
  have hI := Lib.hid (fun w => by
    have := decDiv_all n s x m t y w h1 h2
    rw [hV] at this
    exact this : ∀ w : World, Calls Tryd.prog 64 #[.agg #[.bool n, .string s, .int .i64 x], .agg #[.bool m, .string t, .int .i64 y]] w fun e w' => e = .returned (.tuple #[.agg #[.bool n', .string u, .int .i64 y'], .int .i64 c]) ∧ Below w.heap.size w w')
  rw [hV]
  clear hV
  have hn0 : ¬ (w.heap.size = w.heap.size + 1 + 1) := by omega
  have hn1 : ¬ (w.heap.size + 1 + 1 = w.heap.size) := by omega
  go_enter Tryd.func32, Tryd.ntmps32
  go_wp2_with fail
  refine (isDec_any n s x _ hs hx).mono ?_
  rintro e w1 ⟨rfl, hb1⟩
  rw [h1]
  obtain ⟨w0, hw0, hz0, hb0, hc0, hr0⟩ := three_laid w n s x m t y
  rw [hw0] at hb1
  obtain ⟨hv1, hz1, hc1, hr1⟩ := three_kept hb1 hz0 hb0 hc0 hr0
  clear hw0 hz0 hb0 hc0 hr0 hb1
  go_wp2_with fail
  refine (isDec_any m t y _ ht hy).mono ?_
  rintro e w2 ⟨rfl, hb2⟩
  rw [h2]
  obtain ⟨hv2, hz2, hc2, hr2⟩ := three_kept hb2 hz1 hv1 hc1 hr1
  clear hz1 hv1 hc1 hr1 hb2
  clear h1 h2
  go_wp2_with fail
  refine (hI.out _).mono ?_
  rintro e w3 ⟨rfl, hb3⟩
  obtain ⟨hv3, hz3, hc3, hr3⟩ := three_kept hb3 hz2 hv2 hc2 hr2
  clear hb3 hz2 hv2 hc2 hr2
  clear hI
  go_wp2
  refine bodyPost_ret (v := .tuple #[.agg #[.bool n', .string u, .int .i64 y'], .int .i64 c]) (by simp [results, Tryd.results32, go_sem, *]) rfl ?_
  exact ⟨rfl, set_three (by assumption) (by omega) _ _ _⟩

theorem fnExactDecDiv_walk (n : Bool) (s : ByteArray) (x : Int) (hs : s.size ≤ maxLen) (hx : (Lit.int .i64 x).wf = true) (m : Bool) (t : ByteArray) (y : Int) (ht : t.size ≤ maxLen) (hy : (Lit.int .i64 y).wf = true) (w : World) :
    Calls Tryd.prog 10 #[.agg #[.bool n, .string s, .int .i64 x], .agg #[.bool m, .string t, .int .i64 y]] w fun e w' => e = .returned (.bool true) ∧ Below w.heap.size w w' := by
  by_cases hsz : s.size + t.size ≤ 1048576
  · by_cases h : decOk n (bs s) x = false ∨ decOk m (bs t) y = false
    · exact fnExactDecDiv_law n s x m t y w hsz false ⟨#[]⟩ 0 3 (fun w => specDecDiv_no n s x m t y w hs hx ht hy h) (fun w => implDecDiv_no n s x m t y w hs hx ht hy h)
    · have h1 : decOk n (bs s) x = true := by cases e : decOk n (bs s) x with | true => rfl | false => exact absurd (.inl e) h
      have h2 : decOk m (bs t) y = true := by cases e : decOk m (bs t) y with | true => rfl | false => exact absurd (.inr e) h
      obtain ⟨n', u, y', c, hV⟩ : ∃ (n' : Bool) (u : ByteArray) (y' c : Int), divV n s x m t y = .tuple #[.agg #[.bool n', .string u, .int .i64 y'], .int .i64 c] := divV_lit n s x m t y
      exact fnExactDecDiv_law n s x m t y w hsz n' u y' c (fun w => by rw [← hV]; exact specDecDiv_yes n s x m t y w hs hx ht hy h1 h2) (fun w => by rw [← hV]; exact implDecDiv_yes n s x m t y w hs hx ht hy h1 h2)
  · exact fnExactDecDiv_big n s x m t y w hsz hs ht
end Go.Proofs.YtbfkmpignbppfaaDoor

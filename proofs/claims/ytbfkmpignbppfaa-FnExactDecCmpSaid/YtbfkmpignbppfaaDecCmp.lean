/-
  The contracts of both sides' DecCmp. Condition: numbers in form.
-/
import Derived.Test.YtbfkmpignbppfaaThree
import Derived.Test.YtbfkmpignbppfaaDecSum
import Derived.Test.YtbfkmpignbppfaaDecTwo
import Derived.Test.YtbfkmpignbppfaaDecNg
import Derived.Deep.CutRange
namespace Go.Proofs.Ytbfkmpignbppfaa
open Go.RowKit
set_option linter.unusedVariables false
set_option linter.unusedSimpArgs false

set_option maxRecDepth 10000 in
set_option maxHeartbeats 1000000 in
theorem decCmp_any (n : Bool) (s : ByteArray) (x : Int) (m : Bool) (t : ByteArray) (y : Int) (w : World) (h1 : decOk n (bs s) x = true) (h2 : decOk m (bs t) y = true) :
    Calls Try.prog 12 #[.agg #[.bool n, .string s, .int .i64 x], .agg #[.bool m, .string t, .int .i64 y]] w fun e w' => e = .returned (.int .i64 (cmpS n (lvl s x y) m (lvl t y x))) ∧ Below w.heap.size w w' := by
  obtain ⟨a1, a2, a3, a4, a5, a6, a7, an, -⟩ := dec_facts h1
  obtain ⟨b1, b2, b3, b4, b5, b6, b7, bn, -⟩ := dec_facts h2
  have lx := lvl_len h1 b2
  have ly := lvl_len h2 a2
  have hAL := fun w => aligned_any n s x m t y w h1 h2
  obtain ⟨X, hX⟩ : ∃ X, lvl s x y = X := ⟨_, rfl⟩
  obtain ⟨Y, hY⟩ : ∃ Y, lvl t y x = Y := ⟨_, rfl⟩
  rw [hX] at lx hAL ⊢
  rw [hY] at ly hAL ⊢
  have HAL := Lib.hid hAL
  have hs1 := size_ofL (dec X)
  have hs2 := size_ofL (dec Y)
  have hC := Lib.hid (fun w => by
    have := natCmp_any (ofL (dec X)) (ofL (dec Y)) w (by rw [bs_ofL]; exact dec_canon X) (by rw [bs_ofL]; exact dec_canon Y) (by omega) (by omega)
    rw [bs_ofL, bs_ofL, val_dec, val_dec] at this
    exact this : ∀ w : World, Calls Try.prog 23 #[.string (ofL (dec X)), .string (ofL (dec Y))] w fun e w' => e = .returned (.int .i64 (cmpN X Y)) ∧ Below w.heap.size w w')
  have hD := Lib.hid (fun w => by
    have := natCmp_any (ofL (dec Y)) (ofL (dec X)) w (by rw [bs_ofL]; exact dec_canon Y) (by rw [bs_ofL]; exact dec_canon X) (by omega) (by omega)
    rw [bs_ofL, bs_ofL, val_dec, val_dec] at this
    exact this : ∀ w : World, Calls Try.prog 23 #[.string (ofL (dec Y)), .string (ofL (dec X))] w fun e w' => e = .returned (.int .i64 (cmpN Y X)) ∧ Below w.heap.size w w')
  clear h1 h2 a4 b4 a5 b5 hX hY hAL lx ly hs1 hs2 an bn
  cases n
  · cases m
    · have e0 : cmpS false X false Y = cmpN X Y := rfl
      rw [e0]
      go_enter Try.func12, Try.ntmps12
      go_wp2_with fail
      refine (HAL.out _).mono ?_
      rintro e w1 ⟨rfl, hb1⟩
      obtain ⟨w0, hw0, hz0, hb0, hc0⟩ := two_laid w false s x false t y
      rw [hw0] at hb1
      obtain ⟨hv1, hz1, hc1⟩ := two_kept hb1 hz0 hb0 hc0
      clear hw0 hz0 hb0 hc0 hb1
      go_wp2_with fail
      refine (hC.out _).mono ?_
      rintro e w2 ⟨rfl, hb2⟩
      go_wp2
      go_ret
      exact ⟨rfl, hv1.trans (hb2.mono hv1.size)⟩
    · have e0 : cmpS false X true Y = 1 := rfl
      rw [e0]
      go_enter Try.func12, Try.ntmps12
      go_wp2_with fail
      refine (HAL.out _).mono ?_
      rintro e w1 ⟨rfl, hb1⟩
      obtain ⟨w0, hw0, hz0, hb0, hc0⟩ := two_laid w false s x true t y
      rw [hw0] at hb1
      obtain ⟨hv1, hz1, hc1⟩ := two_kept hb1 hz0 hb0 hc0
      clear hw0 hz0 hb0 hc0 hb1
      go_wp2
      go_ret
      exact ⟨rfl, hv1⟩
  · cases m
    · have e0 : cmpS true X false Y = -1 := rfl
      rw [e0]
      go_enter Try.func12, Try.ntmps12
      go_wp2_with fail
      refine (HAL.out _).mono ?_
      rintro e w1 ⟨rfl, hb1⟩
      obtain ⟨w0, hw0, hz0, hb0, hc0⟩ := two_laid w true s x false t y
      rw [hw0] at hb1
      obtain ⟨hv1, hz1, hc1⟩ := two_kept hb1 hz0 hb0 hc0
      clear hw0 hz0 hb0 hc0 hb1
      go_wp2
      go_ret
      exact ⟨rfl, hv1⟩
    · have e0 : cmpS true X true Y = cmpN Y X := rfl
      rw [e0]
      go_enter Try.func12, Try.ntmps12
      go_wp2_with fail
      refine (HAL.out _).mono ?_
      rintro e w1 ⟨rfl, hb1⟩
      obtain ⟨w0, hw0, hz0, hb0, hc0⟩ := two_laid w true s x true t y
      rw [hw0] at hb1
      obtain ⟨hv1, hz1, hc1⟩ := two_kept hb1 hz0 hb0 hc0
      clear hw0 hz0 hb0 hc0 hb1
      go_wp2_with fail
      refine (hD.out _).mono ?_
      rintro e w2 ⟨rfl, hb2⟩
      go_wp2
      go_ret
      exact ⟨rfl, hv1.trans (hb2.mono hv1.size)⟩

theorem implDecCmp_no (n : Bool) (s : ByteArray) (x : Int) (m : Bool) (t : ByteArray) (y : Int) (w : World) (hs : s.size ≤ maxLen) (hx : (Lit.int .i64 x).wf = true) (ht : t.size ≤ maxLen) (hy : (Lit.int .i64 y).wf = true) (h : decOk n (bs s) x = false ∨ decOk m (bs t) y = false) :
    Calls Try.prog 7 #[.agg #[.bool n, .string s, .int .i64 x], .agg #[.bool m, .string t, .int .i64 y]] w fun e w' => e = .returned (.int .i64 2) ∧ Below w.heap.size w w' := by
  cases h1 : decOk n (bs s) x
  · go_enter Try.func7, Try.ntmps7
    go_wp2_with fail
    refine (isDec_any n s x _ hs hx).mono ?_
    rintro e w1 ⟨rfl, hb1⟩
    rw [h1]
    obtain ⟨w0, hw0, hz0, hb0, hc0⟩ := two_laid w n s x m t y
    rw [hw0] at hb1
    obtain ⟨hv1, hz1, hc1⟩ := two_kept hb1 hz0 hb0 hc0
    clear hw0 hz0 hb0 hc0 hb1
    go_wp2
    go_ret
    exact ⟨rfl, hv1⟩
  · have h2 : decOk m (bs t) y = false := by simpa [h1] using h
    go_enter Try.func7, Try.ntmps7
    go_wp2_with fail
    refine (isDec_any n s x _ hs hx).mono ?_
    rintro e w1 ⟨rfl, hb1⟩
    rw [h1]
    obtain ⟨w0, hw0, hz0, hb0, hc0⟩ := two_laid w n s x m t y
    rw [hw0] at hb1
    obtain ⟨hv1, hz1, hc1⟩ := two_kept hb1 hz0 hb0 hc0
    clear hw0 hz0 hb0 hc0 hb1
    go_wp2_with fail
    refine (isDec_any m t y _ ht hy).mono ?_
    rintro e w2 ⟨rfl, hb2⟩
    rw [h2]
    obtain ⟨hv2, hz2, hc2⟩ := two_kept hb2 hz1 hv1 hc1
    clear hz1 hv1 hc1 hb2
    go_wp2
    go_ret
    exact ⟨rfl, hv2⟩

theorem specDecCmp_no (n : Bool) (s : ByteArray) (x : Int) (m : Bool) (t : ByteArray) (y : Int) (w : World) (hs : s.size ≤ maxLen) (hx : (Lit.int .i64 x).wf = true) (ht : t.size ≤ maxLen) (hy : (Lit.int .i64 y).wf = true) (h : decOk n (bs s) x = false ∨ decOk m (bs t) y = false) :
    Calls Try.prog 5 #[.agg #[.bool n, .string s, .int .i64 x], .agg #[.bool m, .string t, .int .i64 y]] w fun e w' => e = .returned (.int .i64 2) ∧ Below w.heap.size w w' := by
  cases h1 : decOk n (bs s) x
  · go_enter Try.func5, Try.ntmps5
    go_wp2_with fail
    refine (specDecOk_any n s x _ hs hx).mono ?_
    rintro e w1 ⟨rfl, hb1⟩
    rw [h1]
    obtain ⟨w0, hw0, hz0, hb0, hc0⟩ := two_laid w n s x m t y
    rw [hw0] at hb1
    obtain ⟨hv1, hz1, hc1⟩ := two_kept hb1 hz0 hb0 hc0
    clear hw0 hz0 hb0 hc0 hb1
    go_wp2
    go_ret
    exact ⟨rfl, hv1⟩
  · have h2 : decOk m (bs t) y = false := by simpa [h1] using h
    go_enter Try.func5, Try.ntmps5
    go_wp2_with fail
    refine (specDecOk_any n s x _ hs hx).mono ?_
    rintro e w1 ⟨rfl, hb1⟩
    rw [h1]
    obtain ⟨w0, hw0, hz0, hb0, hc0⟩ := two_laid w n s x m t y
    rw [hw0] at hb1
    obtain ⟨hv1, hz1, hc1⟩ := two_kept hb1 hz0 hb0 hc0
    clear hw0 hz0 hb0 hc0 hb1
    go_wp2_with fail
    refine (specDecOk_any m t y _ ht hy).mono ?_
    rintro e w2 ⟨rfl, hb2⟩
    rw [h2]
    obtain ⟨hv2, hz2, hc2⟩ := two_kept hb2 hz1 hv1 hc1
    clear hz1 hv1 hc1 hb2
    go_wp2
    go_ret
    exact ⟨rfl, hv2⟩

theorem implDecCmp_yes (n : Bool) (s : ByteArray) (x : Int) (m : Bool) (t : ByteArray) (y : Int) (w : World) (hs : s.size ≤ maxLen) (hx : (Lit.int .i64 x).wf = true) (ht : t.size ≤ maxLen) (hy : (Lit.int .i64 y).wf = true) (h1 : decOk n (bs s) x = true) (h2 : decOk m (bs t) y = true) :
    Calls Try.prog 7 #[.agg #[.bool n, .string s, .int .i64 x], .agg #[.bool m, .string t, .int .i64 y]] w fun e w' => e = .returned (.int .i64 (cmpS n (lvl s x y) m (lvl t y x))) ∧ Below w.heap.size w w' := by
  have hI := Lib.hid (fun w => decCmp_any n s x m t y w h1 h2)
  go_enter Try.func7, Try.ntmps7
  go_wp2_with fail
  refine (isDec_any n s x _ hs hx).mono ?_
  rintro e w1 ⟨rfl, hb1⟩
  rw [h1]
  obtain ⟨w0, hw0, hz0, hb0, hc0⟩ := two_laid w n s x m t y
  rw [hw0] at hb1
  obtain ⟨hv1, hz1, hc1⟩ := two_kept hb1 hz0 hb0 hc0
  clear hw0 hz0 hb0 hc0 hb1
  go_wp2_with fail
  refine (isDec_any m t y _ ht hy).mono ?_
  rintro e w2 ⟨rfl, hb2⟩
  rw [h2]
  obtain ⟨hv2, hz2, hc2⟩ := two_kept hb2 hz1 hv1 hc1
  clear hz1 hv1 hc1 hb2
  go_wp2_with fail
  refine (hI.out _).mono ?_
  rintro e w3 ⟨rfl, hb3⟩
  go_wp2
  go_ret
  exact ⟨rfl, hv2.trans (hb3.mono hv2.size)⟩

set_option maxRecDepth 10000 in
set_option maxHeartbeats 1000000 in
theorem specDecCmp_yes (n : Bool) (s : ByteArray) (x : Int) (m : Bool) (t : ByteArray) (y : Int) (w : World) (hs : s.size ≤ maxLen) (hx : (Lit.int .i64 x).wf = true) (ht : t.size ≤ maxLen) (hy : (Lit.int .i64 y).wf = true) (h1 : decOk n (bs s) x = true) (h2 : decOk m (bs t) y = true) :
    Calls Try.prog 5 #[.agg #[.bool n, .string s, .int .i64 x], .agg #[.bool m, .string t, .int .i64 y]] w fun e w' => e = .returned (.int .i64 (cmpS n (lvl s x y) m (lvl t y x))) ∧ Below w.heap.size w w' := by
  have hsg : cmpS n (lvl s x y) m (lvl t y x) = sgnV n (lvl s x y) (ng m t) (lvl t y x) := by
    have e := cmpS_sgn n (lvl s x y) m (lvl t y x) (fun h => Nat.mul_pos ((dec_facts h1).2.2.2.2.2.2.2.1 h) (Nat.pow_pos (by decide))) (fun h => Nat.mul_pos ((dec_facts h2).2.2.2.2.2.2.2.1 h) (Nat.pow_pos (by decide)))
    rw [← e]
    congr 1
    unfold ng
    by_cases h0 : t.size = 0
    · have : lvl t y x = 0 := by unfold lvl; rw [bs_empty h0]; exact Nat.zero_mul _
      rw [if_pos h0, if_pos this]
    · have hp := (dec_facts h2).2.2.2.2.2.2.2.2 (by omega)
      have : ¬ lvl t y x = 0 := by unfold lvl; exact Nat.ne_of_gt (Nat.mul_pos hp (Nat.pow_pos (by decide)))
      rw [if_neg h0, if_neg this]
  obtain ⟨n', u, hV, hE⟩ : ∃ (n' : Bool) (u : ByteArray), sgnR n (lvl s x y) (ng m t) (lvl t y x) = .tuple #[.agg #[.bool n', .string u, .int .i64 0], .int .i64 0] ∧
      ((u.toList.isEmpty = true ∧ cmpS n (lvl s x y) m (lvl t y x) = 0) ∨ (u.toList.isEmpty = false ∧ n' = true ∧ cmpS n (lvl s x y) m (lvl t y x) = -1) ∨ (u.toList.isEmpty = false ∧ n' = false ∧ cmpS n (lvl s x y) m (lvl t y x) = 1)) := by
    rw [hsg]
    unfold sgnR sgnV
    by_cases h0 : (sumN n (lvl s x y) (ng m t) (lvl t y x)).2 = 0
    · rw [if_pos h0, if_pos h0]; exact ⟨false, ⟨#[]⟩, rfl, .inl ⟨isEmpty_yes rfl, rfl⟩⟩
    · rw [if_neg h0, if_neg h0]
      cases (sumN n (lvl s x y) (ng m t) (lvl t y x)).1
      · exact ⟨false, ofL [49], rfl, .inr (.inr ⟨isEmpty_no (by decide), rfl, rfl⟩)⟩
      · exact ⟨true, ofL [49], rfl, .inr (.inl ⟨isEmpty_no (by decide), rfl, rfl⟩)⟩
  have hI := Lib.hid (fun w => by
    have := l03Sum_false n s x (ng m t) t y w h1 (ng_ok h2)
    rw [hV] at this
    exact this : ∀ w : World, Calls Try.prog 9 #[.agg #[.bool n, .string s, .int .i64 x], .agg #[.bool (ng m t), .string t, .int .i64 y], .bool false] w fun e w' => e = .returned (.tuple #[.agg #[.bool n', .string u, .int .i64 0], .int .i64 0]) ∧ Below w.heap.size w w')
  have hG := Lib.hid (fun w => specDecNeg_ng m t y w ht hy h2)
  have HE := Lib.hid hE
  clear hV hsg hE
  go_enter Try.func5, Try.ntmps5
  go_wp2_with fail
  refine (specDecOk_any n s x _ hs hx).mono ?_
  rintro e w1 ⟨rfl, hb1⟩
  rw [h1]
  obtain ⟨w0, hw0, hz0, hb0, hc0⟩ := two_laid w n s x m t y
  rw [hw0] at hb1
  obtain ⟨hv1, hz1, hc1⟩ := two_kept hb1 hz0 hb0 hc0
  clear hw0 hz0 hb0 hc0 hb1
  go_wp2_with fail
  refine (specDecOk_any m t y _ ht hy).mono ?_
  rintro e w2 ⟨rfl, hb2⟩
  rw [h2]
  obtain ⟨hv2, hz2, hc2⟩ := two_kept hb2 hz1 hv1 hc1
  clear hz1 hv1 hc1 hb2
  obtain ⟨hz2a, hz2b⟩ := hz2
  have hle2 : w.heap.size < w2.heap.size + 1 := Nat.lt_add_one_of_lt hz2a
  have hne1 : ¬ (w.heap.size = w2.heap.size) := Nat.ne_of_lt hz2a
  have hne2 : ¬ (w.heap.size + 1 = w2.heap.size) := Nat.ne_of_lt hz2b
  have hne3 : ¬ (w2.heap.size = w.heap.size) := Nat.ne_of_gt hz2a
  have hne4 : ¬ (w2.heap.size = w.heap.size + 1) := Nat.ne_of_gt hz2b
  have hds : ∀ u : World, u.drew.heap.size = u.heap.size := drew_size
  go_upto_region 3 with fail
  go_cut [5, 6] (fun s5 s6 wx => ∃ g : Nat, s5 = .pointer (some ⟨g, 0, none⟩) ∧ s6 = .int .i64 0 ∧ Below w2.heap.size w2 wx ∧
    (wx.cell? ⟨g, 0, none⟩ = some (.bool n') ∧ wx.cell? ⟨g, 1, none⟩ = some (.string u) ∧ wx.cell? ⟨g, 2, none⟩ = some (.int .i64 0)))
  case first =>
    go_region_held3 (fun w' => w'.cell? ⟨w.heap.size, 0, none⟩ = some (.bool n) ∧ w'.cell? ⟨w.heap.size, 1, none⟩ = some (.string s) ∧ w'.cell? ⟨w.heap.size, 2, none⟩ = some (.int .i64 x) ∧ w'.cell? ⟨w.heap.size + 1, 0, none⟩ = some (.bool m) ∧ w'.cell? ⟨w.heap.size + 1, 1, none⟩ = some (.string t) ∧ w'.cell? ⟨w.heap.size + 1, 2, none⟩ = some (.int .i64 y)) (go_keep)
      (first
        | (go_at_call 10; refine (hG.out _).mono ?_; rintro e w1 ⟨rfl, hb1⟩; obtain ⟨hb1c, hb1f⟩ := bcell hb1; have hb1q := hb1.size; (try simp at hb1q); have hb1q0 : w.heap.size < w1.heap.size := (by omega); have hb1q1 : w.heap.size + 1 < w1.heap.size := (by omega); (try have hb1q_w20 : w2.heap.size < w1.heap.size := (by omega)); have hup := fun (g : Nat) h => Nat.lt_of_lt_of_le (n := g) h hb1.size; have hle : w.heap.size < w1.heap.size + 1 := Nat.lt_add_one_of_lt hb1q0; have hne1 : ¬ (w.heap.size = w1.heap.size) := Nat.ne_of_lt hb1q0; have hne2 : ¬ (w.heap.size + 1 = w1.heap.size) := Nat.ne_of_lt hb1q1; have hne3 : ¬ (w1.heap.size = w.heap.size) := Nat.ne_of_gt hb1q0; have hne4 : ¬ (w1.heap.size = w.heap.size + 1) := Nat.ne_of_gt hb1q1)
        | (go_at_call 9; refine (hI.out _).mono ?_; rintro e w1 ⟨rfl, hb1⟩; obtain ⟨hb1c, hb1f⟩ := bcell hb1; have hb1q := hb1.size; (try simp at hb1q); have hb1q0 : w.heap.size < w1.heap.size := (by omega); have hb1q1 : w.heap.size + 1 < w1.heap.size := (by omega); (try have hb1q_w20 : w2.heap.size < w1.heap.size := (by omega)); have hup := fun (g : Nat) h => Nat.lt_of_lt_of_le (n := g) h hb1.size; have hle : w.heap.size < w1.heap.size + 1 := Nat.lt_add_one_of_lt hb1q0; have hne1 : ¬ (w.heap.size = w1.heap.size) := Nat.ne_of_lt hb1q0; have hne2 : ¬ (w.heap.size + 1 = w1.heap.size) := Nat.ne_of_lt hb1q1; have hne3 : ¬ (w1.heap.size = w.heap.size) := Nat.ne_of_gt hb1q0; have hne4 : ¬ (w1.heap.size = w.heap.size + 1) := Nat.ne_of_gt hb1q1))
    all_goals (go_wp2_with fail; go_meet; refine ⟨_, rfl, rfl, ?_, ?_⟩)
    all_goals first
      | (show Below _ _ _; (repeat (first | exact Below.refl _ _ | assumption | refine Below.drew ?_ | refine below_drewN ?_ _ | (refine Below.alloc ?_ (by first | exact Nat.le_refl _ | (simp; done) | (simp; omega) | (simp at *; omega)) _) | (refine Below.setCell ?_ (by first | exact Nat.le_refl _ | (simp; done) | (simp; omega)) _) | (refine Below.trans ?_ (Below.mono (by assumption) (by first | exact Nat.le_refl _ | (simp; done) | (simp; omega) | (simp at *; omega)))))))
      | go_keep
      | exact set_cells (v0 := .bool false) (v1 := .string ⟨#[]⟩) (v2 := .int .i64 0) (by go_keep) (by go_keep) (by go_keep)
  case rest =>
    obtain ⟨g, rfl, rfl, hb3, hg3⟩ := hcut
    have hv3 := hv2.trans (hb3.mono hv2.size)
    clear hb3 hv2 hc2
    rcases HE.out with ⟨e1, e2⟩ | ⟨e1, rfl, e2⟩ | ⟨e1, rfl, e2⟩
    all_goals
      go_wp2
      go_ret
      first | exact ⟨rfl, hv3⟩ | exact ⟨by rw [e2]; rfl, hv3⟩
end Go.Proofs.Ytbfkmpignbppfaa

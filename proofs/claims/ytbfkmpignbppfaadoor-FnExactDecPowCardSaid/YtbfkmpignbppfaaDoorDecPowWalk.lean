/-
  The walk of FnExactDecPow, out of the contracts. No condition.
-/
import Derived.Test.YtbfkmpignbppfaaDoorDecPowS
import Derived.Test.YtbfkmpignbppfaaDoorDecTwo
namespace Go.Proofs.YtbfkmpignbppfaaDoor
open Go.RowKit
set_option linter.unusedVariables false
set_option linter.unusedSimpArgs false

theorem implDecPow_no (n : Bool) (s : ByteArray) (x y : Int) (w : World) (hs : s.size ≤ maxLen) (hx : (Lit.int .i64 x).wf = true) (h : decOk n (bs s) x = false ∨ betw y (-99) 99 = false) :
    Calls Tryd.prog 36 #[.agg #[.bool n, .string s, .int .i64 x], .int .i64 y] w fun e w' => e = .returned (.tuple #[.agg #[.bool false, .string ⟨#[]⟩, .int .i64 0], .int .i64 3]) ∧ Below w.heap.size w w' := by
  cases hk : decOk n (bs s) x
  · go_enter Tryd.func36, Tryd.ntmps36
    go_wp2_with fail
    refine (isDec_any n s x _ hs hx).mono ?_
    rintro e w1 ⟨rfl, hb1⟩
    rw [hk]
    obtain ⟨w0, hw0, hz0, hb0, hc0, hr0⟩ := pair_laid w n s x
    rw [hw0] at hb1
    obtain ⟨hv1, hz1, hc1, hr1⟩ := pair_kept hb1 hz0 hb0 hc0 hr0
    clear hw0 hz0 hb0 hc0 hr0 hb1
    go_wp2
    refine bodyPost_ret (v := .tuple #[.agg #[.bool false, .string ⟨#[]⟩, .int .i64 0], .int .i64 3]) (by simp [results, Tryd.results36, go_sem, *]) rfl ⟨rfl, ?_⟩
    exact set_three hv1 (b := w.heap.size + 1) (by omega) _ _ _
  · have hb : betw y (-99) 99 = false := by simpa [hk] using h
    go_enter Tryd.func36, Tryd.ntmps36
    go_wp2_with fail
    refine (isDec_any n s x _ hs hx).mono ?_
    rintro e w1 ⟨rfl, hb1⟩
    rw [hk]
    obtain ⟨w0, hw0, hz0, hb0, hc0, hr0⟩ := pair_laid w n s x
    rw [hw0] at hb1
    obtain ⟨hv1, hz1, hc1, hr1⟩ := pair_kept hb1 hz0 hb0 hc0 hr0
    clear hw0 hz0 hb0 hc0 hr0 hb1
    go_wp2_with fail
    refine (within_any _ _ _ _).mono ?_
    rintro e w8 ⟨rfl, hw8⟩
    obtain rfl : w1 = w8 := hw8.symm
    clear hw8
    rw [hb]
    go_wp2
    refine bodyPost_ret (v := .tuple #[.agg #[.bool false, .string ⟨#[]⟩, .int .i64 0], .int .i64 3]) (by simp [results, Tryd.results36, go_sem, *]) rfl ⟨rfl, ?_⟩
    exact set_three hv1 (b := w.heap.size + 1) (by omega) _ _ _
theorem specDecPow_no (n : Bool) (s : ByteArray) (x y : Int) (w : World) (hs : s.size ≤ maxLen) (hx : (Lit.int .i64 x).wf = true) (h : decOk n (bs s) x = false ∨ betw y (-99) 99 = false) :
    Calls Tryd.prog 35 #[.agg #[.bool n, .string s, .int .i64 x], .int .i64 y] w fun e w' => e = .returned (.tuple #[.agg #[.bool false, .string ⟨#[]⟩, .int .i64 0], .int .i64 3]) ∧ Below w.heap.size w w' := by
  cases hk : decOk n (bs s) x
  · go_enter Tryd.func35, Tryd.ntmps35
    go_wp2_with fail
    refine (specDecOk_any n s x _ hs hx).mono ?_
    rintro e w1 ⟨rfl, hb1⟩
    rw [hk]
    obtain ⟨w0, hw0, hz0, hb0, hc0, hr0⟩ := pair_laid w n s x
    rw [hw0] at hb1
    obtain ⟨hv1, hz1, hc1, hr1⟩ := pair_kept hb1 hz0 hb0 hc0 hr0
    clear hw0 hz0 hb0 hc0 hr0 hb1
    go_wp2
    refine bodyPost_ret (v := .tuple #[.agg #[.bool false, .string ⟨#[]⟩, .int .i64 0], .int .i64 3]) (by simp [results, Tryd.results35, go_sem, *]) rfl ⟨rfl, ?_⟩
    exact set_three hv1 (b := w.heap.size + 1) (by omega) _ _ _
  · have hb : betw y (-99) 99 = false := by simpa [hk] using h
    go_enter Tryd.func35, Tryd.ntmps35
    go_wp2_with fail
    refine (specDecOk_any n s x _ hs hx).mono ?_
    rintro e w1 ⟨rfl, hb1⟩
    rw [hk]
    obtain ⟨w0, hw0, hz0, hb0, hc0, hr0⟩ := pair_laid w n s x
    rw [hw0] at hb1
    obtain ⟨hv1, hz1, hc1, hr1⟩ := pair_kept hb1 hz0 hb0 hc0 hr0
    clear hw0 hz0 hb0 hc0 hr0 hb1
    go_wp2_with fail
    refine (l01Between_any _ _ _ _).mono ?_
    rintro e w8 ⟨rfl, hw8⟩
    obtain rfl : w1 = w8 := hw8.symm
    clear hw8
    rw [hb]
    go_wp2
    refine bodyPost_ret (v := .tuple #[.agg #[.bool false, .string ⟨#[]⟩, .int .i64 0], .int .i64 3]) (by simp [results, Tryd.results35, go_sem, *]) rfl ⟨rfl, ?_⟩
    exact set_three hv1 (b := w.heap.size + 1) (by omega) _ _ _
theorem implDecPow_yes (n : Bool) (s : ByteArray) (x y : Int) (w : World) (hs : s.size ≤ maxLen) (hx : (Lit.int .i64 x).wf = true) (hk : decOk n (bs s) x = true) (hb : betw y (-99) 99 = true) (m : Bool) (t : ByteArray) (z c : Int)
    (hI : ∀ w : World, Calls Tryd.prog 69 #[.agg #[.bool n, .string s, .int .i64 x], .int .i64 y] w fun e w' => e = .returned (.tuple #[.agg #[.bool m, .string t, .int .i64 z], .int .i64 c]) ∧ Below w.heap.size w w') :
    Calls Tryd.prog 36 #[.agg #[.bool n, .string s, .int .i64 x], .int .i64 y] w fun e w' => e = .returned (.tuple #[.agg #[.bool m, .string t, .int .i64 z], .int .i64 c]) ∧ Below w.heap.size w w' := by
  have HI := Lib.hid hI
  clear hI
  go_enter Tryd.func36, Tryd.ntmps36
  go_wp2_with fail
  refine (isDec_any n s x _ hs hx).mono ?_
  rintro e w1 ⟨rfl, hb1⟩
  rw [hk]
  obtain ⟨w0, hw0, hz0, hb0, hc0, hr0⟩ := pair_laid w n s x
  rw [hw0] at hb1
  obtain ⟨hv1, hz1, hc1, hr1⟩ := pair_kept hb1 hz0 hb0 hc0 hr0
  clear hw0 hz0 hb0 hc0 hr0 hb1
  go_wp2_with fail
  refine (within_any _ _ _ _).mono ?_
  rintro e w8 ⟨rfl, hw8⟩
  obtain rfl : w1 = w8 := hw8.symm
  clear hw8
  rw [hb]
  go_wp2_with fail
  refine (HI.out _).mono ?_
  rintro e w2 ⟨rfl, hb2⟩
  obtain ⟨hv2, hz2, hc2, hr2⟩ := pair_kept hb2 hz1 hv1 hc1 hr1
  clear hv1 hz1 hc1 hr1 hb2
  go_wp2
  refine bodyPost_ret (v := .tuple #[.agg #[.bool m, .string t, .int .i64 z], .int .i64 c]) (by simp [results, Tryd.results36, go_sem, *]) rfl ⟨rfl, ?_⟩
  exact set_three hv2 (b := w.heap.size + 1) (by omega) _ _ _

set_option maxRecDepth 10000 in
set_option maxHeartbeats 4000000 in
theorem fnExactDecPow_law (n : Bool) (s : ByteArray) (x y : Int) (w : World) (h : s.size ≤ 1048576) (n' : Bool) (u : ByteArray) (y' c : Int)
    (hA : ∀ w, Calls Tryd.prog 35 #[.agg #[.bool n, .string s, .int .i64 x], .int .i64 y] w fun e w' => e = .returned (.tuple #[.agg #[.bool n', .string u, .int .i64 y'], .int .i64 c]) ∧ Below w.heap.size w w')
    (hB : ∀ w, Calls Tryd.prog 36 #[.agg #[.bool n, .string s, .int .i64 x], .int .i64 y] w fun e w' => e = .returned (.tuple #[.agg #[.bool n', .string u, .int .i64 y'], .int .i64 c]) ∧ Below w.heap.size w w') :
    Calls Tryd.prog 12 #[.agg #[.bool n, .string s, .int .i64 x], .int .i64 y] w fun e w' => e = .returned (.bool true) ∧ Below w.heap.size w w' := by
  have HA := Lib.hid hA
  have HB := Lib.hid hB
  have hcc : (c != c) = false := by simp
  clear hA hB
  go_enter Tryd.func12, Tryd.ntmps12
  go_wp2_with (first | (go_at_call 35; refine (HA.out _).mono ?_; rintro e w1 ⟨rfl, hb1⟩; obtain ⟨hb1c, hb1f⟩ := bcell hb1; have hb1q := hb1.size; (try simp at hb1q); have hb1q0 : w.heap.size < w1.heap.size := (by omega)) | (go_at_call 36; refine (HB.out _).mono ?_; rintro e w2 ⟨rfl, hb2⟩; obtain ⟨hb2c, hb2f⟩ := bcell hb2; have hb2q := hb2.size; (try simp at hb2q); have hb2q0 : w.heap.size < w2.heap.size := (by omega); (try have hb2q_w10 : w1.heap.size < w2.heap.size := (by omega))) | (go_at_call 16; refine (toDec_any _ _ _ _).mono ?_; rintro e w3 ⟨rfl, hb3⟩; obtain ⟨hb3c, hb3f⟩ := bcell hb3; have hb3q := hb3.size; (try simp at hb3q); have hb3q0 : w.heap.size < w3.heap.size := (by omega); (try have hb3q_w10 : w1.heap.size < w3.heap.size := (by omega)); (try have hb3q_w20 : w2.heap.size < w3.heap.size := (by omega))) | (go_at_call 20; refine (eqDec_same _ _ _ _).mono ?_; rintro e w4 ⟨rfl, hb4⟩; obtain ⟨hb4c, hb4f⟩ := bcell hb4; have hb4q := hb4.size; (try simp at hb4q); have hb4q0 : w.heap.size < w4.heap.size := (by omega); (try have hb4q_w10 : w1.heap.size < w4.heap.size := (by omega)); (try have hb4q_w20 : w2.heap.size < w4.heap.size := (by omega))) | go_in)
  go_ret
  go_light
  refine ⟨rfl, ?_⟩
  (repeat (first | exact Below.refl _ _ | assumption | refine Below.drew ?_ | refine below_drewN ?_ _ | (refine Below.alloc ?_ (by first | exact Nat.le_refl _ | (simp; done) | (simp; omega) | (simp at *; omega)) _) | (refine Below.setCell ?_ (by first | exact Nat.le_refl _ | (simp; done) | (simp; omega)) _) | (refine Below.trans ?_ (Below.mono (by assumption) (by first | exact Nat.le_refl _ | (simp; done) | (simp; omega) | (simp at *; omega))))))
theorem specDecPow_zero (a : NumC) (ha : a.ok) (hc : a.code = 0) (hs : a.dig.size ≤ maxLen) (hx : (Lit.int .i64 a.exp).wf = true) (w : World) :
    Calls Tryd.prog 35 #[.agg #[.bool a.neg, .string a.dig, .int .i64 a.exp], .int .i64 0] w fun e w' => e = .returned (.tuple #[.agg #[.bool false, .string ⟨#[49]⟩, .int .i64 0], .int .i64 0]) ∧ Below w.heap.size w w' :=
  specDecPow_up a ha hc 0 (by omega) hs hx w
theorem powDown_lit (a : NumC) (k : Nat) : ∃ (n : Bool) (u : ByteArray) (y c : Int), powDown a k = .tuple #[.agg #[.bool n, .string u, .int .i64 y], .int .i64 c] := by
  unfold powDown
  split
  · exact divV_lit _ _ _ _ _ _
  · exact ⟨_, _, _, _, rfl⟩

theorem fnExactDecPow_walk (n : Bool) (s : ByteArray) (x : Int) (hs : s.size ≤ maxLen) (hx : (Lit.int .i64 x).wf = true) (y : Int) (hy : (Lit.int .i64 y).wf = true) (w : World) :
    Calls Tryd.prog 12 #[.agg #[.bool n, .string s, .int .i64 x], .int .i64 y] w fun e w' => e = .returned (.bool true) ∧ Below w.heap.size w w' := by
  by_cases hb : 1048576 < s.size
  · have hs' := hs
    unfold maxLen at hs'
    go_enter Tryd.func12, Tryd.ntmps12
    go_wp2
    go_ret
    refine ⟨rfl, ?_⟩
    go_light
    (repeat (first | exact Below.refl _ _ | assumption | refine Below.drew ?_ | refine below_drewN ?_ _ | (refine Below.alloc ?_ (by first | exact Nat.le_refl _ | (simp; done) | (simp; omega) | (simp at *; omega)) _) | (refine Below.setCell ?_ (by first | exact Nat.le_refl _ | (simp; done) | (simp; omega)) _) | (refine Below.trans ?_ (Below.mono (by assumption) (by first | exact Nat.le_refl _ | (simp; done) | (simp; omega) | (simp at *; omega))))))
  · by_cases h : decOk n (bs s) x = false ∨ betw y (-99) 99 = false
    · exact fnExactDecPow_law n s x y w (by omega) false ⟨#[]⟩ 0 3 (fun w => specDecPow_no n s x y w hs hx h) (fun w => implDecPow_no n s x y w hs hx h)
    · have hk : decOk n (bs s) x = true := by cases e : decOk n (bs s) x with | true => rfl | false => exact absurd (.inl e) h
      have hy2 : betw y (-99) 99 = true := by cases e : betw y (-99) 99 with | true => rfl | false => exact absurd (.inr e) h
      have hyb : -99 ≤ y ∧ y ≤ 99 := by simpa [betw] using hy2
      obtain ⟨a, ha⟩ : ∃ a : NumC, a = ⟨n, s, x, 0⟩ := ⟨_, rfl⟩
      have hok : a.ok := by
        obtain ⟨a1, -⟩ := dec_facts hk
        subst ha
        exact ⟨hk, a1, .inl rfl⟩
      have hc : a.code = 0 := by subst ha; rfl
      have e1 : a.neg = n := by subst ha; rfl
      have e2 : a.dig = s := by subst ha; rfl
      have e3 : a.exp = x := by subst ha; rfl
      clear ha
      subst e1 e2 e3
      rcases Int.lt_trichotomy y 0 with hlt | rfl | hgt
      · obtain ⟨k, rfl⟩ : ∃ k : Nat, y = -((k + 1 : Nat) : Int) := ⟨(-y - 1).toNat, by omega⟩
        obtain ⟨n', u, y', c, hV⟩ := powDown_lit a k
        exact fnExactDecPow_law a.neg a.dig a.exp _ w (by omega) n' u y' c (fun w => by rw [← hV]; exact specDecPow_down a hok hc k (by omega) hs hx w)
          (fun w => implDecPow_yes a.neg a.dig a.exp _ w hs hx hk hy2 n' u y' c (fun w => by rw [← hV]; exact decPow_down a hok hc k (by omega) w))
      · exact fnExactDecPow_law a.neg a.dig a.exp 0 w (by omega) false ⟨#[49]⟩ 0 0 (fun w => specDecPow_zero a hok hc hs hx w)
          (fun w => implDecPow_yes a.neg a.dig a.exp 0 w hs hx hk hy2 false ⟨#[49]⟩ 0 0 (fun w => decPow_zero a w))
      · obtain ⟨k, rfl⟩ : ∃ k : Nat, y = ((k + 1 : Nat) : Int) := ⟨(y - 1).toNat, by omega⟩
        exact fnExactDecPow_law a.neg a.dig a.exp _ w (by omega) (powQ a k).neg (powQ a k).dig (powQ a k).exp (powQ a k).code (fun w => specDecPow_up a hok hc (k + 1) (by omega) hs hx w)
          (fun w => implDecPow_yes a.neg a.dig a.exp _ w hs hx hk hy2 _ _ _ _ (fun w => decPow_up a hok hc k (by omega) w))
end Go.Proofs.YtbfkmpignbppfaaDoor

/-
  The walk of FnExactDecRead, out of the contracts. Condition: the library's variable MaxLen holds an int.
-/
import Derived.Test.YtjjpdoabagnmoaaDoorScanS
import Derived.Test.YtjjpdoabagnmoaaDoorReadI
import Derived.Test.YtjjpdoabagnmoaaDoorReadS
import Derived.Test.YtjjpdoabagnmoaaDoorDecLaw
namespace Go.Proofs.YtjjpdoabagnmoaaDoor
open Go.RowKit
set_option linter.unusedVariables false
set_option linter.unusedSimpArgs false

theorem l03Scan_zero (s : ByteArray) (x : Int) (K : Nat) (w : World) (hx : x = 0) (hs : s.size ≤ 1099511627776) (h0 : 0 < s.size) (hK : scanN (bs s) = K) :
    Calls Tryd.prog 25 #[.string s, .int .i64 x] w fun e w' => e = .returned (.int .i64 (K : Int)) ∧ w' = w := by
  subst hx hK
  have h := l03Scan_any s 0 w hs h0
  rw [Nat.zero_add] at h
  exact h
theorem decEnd_to (s : ByteArray) (K : Nat) (w : World) (hs : s.size ≤ 1099511627776) (hK : scanN (bs s) = K) :
    Calls Tryd.prog 27 #[.string s] w fun e w' => e = .returned (.int .i64 (K : Int)) ∧ w' = w := by
  subst hK; exact decEnd_any s w hs
/-- a text that no number's text is -/
def NoRead (s : ByteArray) : Prop := s.size = 0 ∨ 1000 < s.size ∨ (0 < s.size ∧ s.size ≤ 1000 ∧ scanN (bs s) ≠ s.size)
theorem specDecRead_no (s : ByteArray) (w : World) (hs : s.size ≤ maxLen) (h : NoRead s) :
    Calls Tryd.prog 7 #[.string s] w fun e w' => e = .returned (.tuple #[.agg #[.bool false, .string ⟨#[]⟩, .int .i64 0], .int .i64 3]) ∧ Below w.heap.size w w' := by
  unfold maxLen at hs
  rcases h with h0 | h | ⟨h0, h1, h2⟩
  · have hemp := isEmpty_yes h0
    go_enter Tryd.func7, Tryd.ntmps7
    go_wp2
    refine bodyPost_ret (v := .tuple #[.agg #[.bool false, .string ⟨#[]⟩, .int .i64 0], .int .i64 3]) (by simp [results, Tryd.results7, go_sem, *]) rfl ⟨rfl, ?_⟩
    go_light
    (repeat (first | exact Below.refl _ _ | assumption | refine Below.drew ?_ | refine below_drewN ?_ _ | (refine Below.alloc ?_ (by first | exact Nat.le_refl _ | (simp; done) | (simp; omega) | (simp at *; omega)) _) | (refine Below.setCell ?_ (by first | exact Nat.le_refl _ | (simp; done) | (simp; omega)) _) | (refine Below.trans ?_ (Below.mono (by assumption) (by first | exact Nat.le_refl _ | (simp; done) | (simp; omega) | (simp at *; omega))))))
  · have hemp := isEmpty_no (s := s) (by omega)
    have hgt : 1000 < (s.size : Int) := by omega
    go_enter Tryd.func7, Tryd.ntmps7
    go_wp2
    refine bodyPost_ret (v := .tuple #[.agg #[.bool false, .string ⟨#[]⟩, .int .i64 0], .int .i64 3]) (by simp [results, Tryd.results7, go_sem, *]) rfl ⟨rfl, ?_⟩
    go_light
    (repeat (first | exact Below.refl _ _ | assumption | refine Below.drew ?_ | refine below_drewN ?_ _ | (refine Below.alloc ?_ (by first | exact Nat.le_refl _ | (simp; done) | (simp; omega) | (simp at *; omega)) _) | (refine Below.setCell ?_ (by first | exact Nat.le_refl _ | (simp; done) | (simp; omega)) _) | (refine Below.trans ?_ (Below.mono (by assumption) (by first | exact Nat.le_refl _ | (simp; done) | (simp; omega) | (simp at *; omega))))))
  · have hemp := isEmpty_no h0
    have hgt : ¬ 1000 < (s.size : Int) := by omega
    obtain ⟨K, hK⟩ : ∃ K, scanN (bs s) = K := ⟨_, rfl⟩
    rw [hK] at h2
    have hne : ((K : Int) != (s.size : Int)) = true := by rw [bne_iff_ne]; omega
    go_enter Tryd.func7, Tryd.ntmps7
    go_wp2_with (go_at_call 25; refine (l03Scan_zero _ _ K _ (by omega) (by omega) h0 hK).mono ?_; rintro e w1 ⟨rfl, rfl⟩)
    refine bodyPost_ret (v := .tuple #[.agg #[.bool false, .string ⟨#[]⟩, .int .i64 0], .int .i64 3]) (by simp [results, Tryd.results7, go_sem, *]) rfl ⟨rfl, ?_⟩
    go_light
    (repeat (first | exact Below.refl _ _ | assumption | refine Below.drew ?_ | refine below_drewN ?_ _ | (refine Below.alloc ?_ (by first | exact Nat.le_refl _ | (simp; done) | (simp; omega) | (simp at *; omega)) _) | (refine Below.setCell ?_ (by first | exact Nat.le_refl _ | (simp; done) | (simp; omega)) _) | (refine Below.trans ?_ (Below.mono (by assumption) (by first | exact Nat.le_refl _ | (simp; done) | (simp; omega) | (simp at *; omega))))))
theorem implDecRead_no (s : ByteArray) (w : World) (hs : s.size ≤ maxLen) (h : NoRead s) :
    Calls Tryd.prog 8 #[.string s] w fun e w' => e = .returned (.tuple #[.agg #[.bool false, .string ⟨#[]⟩, .int .i64 0], .int .i64 3]) ∧ Below w.heap.size w w' := by
  unfold maxLen at hs
  rcases h with h0 | h | ⟨h0, h1, h2⟩
  · have hemp := isEmpty_yes h0
    have hgt : ¬ 1000 < (s.size : Int) := by omega
    have hK : scanN (bs s) = 0 := by rw [bs_empty h0]; rfl
    have hne : (((0 : Nat) : Int) != (s.size : Int)) = false := by rw [h0]; rfl
    have hne2 : ((0 : Int) != (s.size : Int)) = false := by rw [h0]; rfl
    go_enter Tryd.func8, Tryd.ntmps8
    go_wp2_with (go_at_call 27; refine (decEnd_to _ 0 _ (by omega) hK).mono ?_; rintro e w1 ⟨rfl, rfl⟩)
    refine bodyPost_ret (v := .tuple #[.agg #[.bool false, .string ⟨#[]⟩, .int .i64 0], .int .i64 3]) (by simp [results, Tryd.results8, go_sem, *]) rfl ⟨rfl, ?_⟩
    go_light
    (repeat (first | exact Below.refl _ _ | assumption | refine Below.drew ?_ | refine below_drewN ?_ _ | (refine Below.alloc ?_ (by first | exact Nat.le_refl _ | (simp; done) | (simp; omega) | (simp at *; omega)) _) | (refine Below.setCell ?_ (by first | exact Nat.le_refl _ | (simp; done) | (simp; omega)) _) | (refine Below.trans ?_ (Below.mono (by assumption) (by first | exact Nat.le_refl _ | (simp; done) | (simp; omega) | (simp at *; omega))))))
  · have hgt : 1000 < (s.size : Int) := by omega
    go_enter Tryd.func8, Tryd.ntmps8
    go_wp2
    refine bodyPost_ret (v := .tuple #[.agg #[.bool false, .string ⟨#[]⟩, .int .i64 0], .int .i64 3]) (by simp [results, Tryd.results8, go_sem, *]) rfl ⟨rfl, ?_⟩
    go_light
    (repeat (first | exact Below.refl _ _ | assumption | refine Below.drew ?_ | refine below_drewN ?_ _ | (refine Below.alloc ?_ (by first | exact Nat.le_refl _ | (simp; done) | (simp; omega) | (simp at *; omega)) _) | (refine Below.setCell ?_ (by first | exact Nat.le_refl _ | (simp; done) | (simp; omega)) _) | (refine Below.trans ?_ (Below.mono (by assumption) (by first | exact Nat.le_refl _ | (simp; done) | (simp; omega) | (simp at *; omega))))))
  · have hgt : ¬ 1000 < (s.size : Int) := by omega
    obtain ⟨K, hK⟩ : ∃ K, scanN (bs s) = K := ⟨_, rfl⟩
    rw [hK] at h2
    have hne : ((K : Int) != (s.size : Int)) = true := by rw [bne_iff_ne]; omega
    go_enter Tryd.func8, Tryd.ntmps8
    go_wp2_with (go_at_call 27; refine (decEnd_to _ K _ (by omega) hK).mono ?_; rintro e w1 ⟨rfl, rfl⟩)
    refine bodyPost_ret (v := .tuple #[.agg #[.bool false, .string ⟨#[]⟩, .int .i64 0], .int .i64 3]) (by simp [results, Tryd.results8, go_sem, *]) rfl ⟨rfl, ?_⟩
    go_light
    (repeat (first | exact Below.refl _ _ | assumption | refine Below.drew ?_ | refine below_drewN ?_ _ | (refine Below.alloc ?_ (by first | exact Nat.le_refl _ | (simp; done) | (simp; omega) | (simp at *; omega)) _) | (refine Below.setCell ?_ (by first | exact Nat.le_refl _ | (simp; done) | (simp; omega)) _) | (refine Below.trans ?_ (Below.mono (by assumption) (by first | exact Nat.le_refl _ | (simp; done) | (simp; omega) | (simp at *; omega))))))
theorem specDecRead_yes (s : ByteArray) (w : World) (h0 : 0 < s.size) (h1 : s.size ≤ 1000) (h2 : scanN (bs s) = s.size) (n' : Bool) (u : ByteArray) (y' c : Int)
    (hA : ∀ w, Calls Tryd.prog 26 #[.string s] w fun e w' => e = .returned (.tuple #[.agg #[.bool n', .string u, .int .i64 y'], .int .i64 c]) ∧ Below w.heap.size w w') :
    Calls Tryd.prog 7 #[.string s] w fun e w' => e = .returned (.tuple #[.agg #[.bool n', .string u, .int .i64 y'], .int .i64 c]) ∧ Below w.heap.size w w' := by
  have HA := Lib.hid hA
  have hemp := isEmpty_no h0
  have hgt : ¬ 1000 < (s.size : Int) := by omega
  have hne : ((s.size : Int) != (s.size : Int)) = false := by simp
  clear hA
  go_enter Tryd.func7, Tryd.ntmps7
  go_wp2_with (first | (go_at_call 25; refine (l03Scan_zero _ _ s.size _ (by omega) (by omega) h0 h2).mono ?_; rintro e w1 ⟨rfl, rfl⟩) | (go_at_call 26; refine (HA.out _).mono ?_; rintro e w1 ⟨rfl, hb1⟩; obtain ⟨hb1c, hb1f⟩ := bcell hb1; have hb1q := hb1.size; (try simp at hb1q); have hb1q0 : w.heap.size < w1.heap.size := (by omega)))
  refine bodyPost_ret (v := .tuple #[.agg #[.bool n', .string u, .int .i64 y'], .int .i64 c]) (by simp [results, Tryd.results7, go_sem, *]) rfl ⟨rfl, ?_⟩
  go_light
  (repeat (first | exact Below.refl _ _ | assumption | refine Below.drew ?_ | refine below_drewN ?_ _ | (refine Below.alloc ?_ (by first | exact Nat.le_refl _ | (simp; done) | (simp; omega) | (simp at *; omega)) _) | (refine Below.setCell ?_ (by first | exact Nat.le_refl _ | (simp; done) | (simp; omega)) _) | (refine Below.trans ?_ (Below.mono (by assumption) (by first | exact Nat.le_refl _ | (simp; done) | (simp; omega) | (simp at *; omega))))))
theorem implDecRead_yes (s : ByteArray) (w : World) (hM : MaxCell w) (h0 : 0 < s.size) (h1 : s.size ≤ 1000) (h2 : scanN (bs s) = s.size) (n' : Bool) (u : ByteArray) (y' c : Int)
    (hA : ∀ w, MaxCell w → Calls Tryd.prog 28 #[.string s] w fun e w' => e = .returned (.tuple #[.agg #[.bool n', .string u, .int .i64 y'], .int .i64 c]) ∧ Below w.heap.size w w') :
    Calls Tryd.prog 8 #[.string s] w fun e w' => e = .returned (.tuple #[.agg #[.bool n', .string u, .int .i64 y'], .int .i64 c]) ∧ Below w.heap.size w w' := by
  have HA := Lib.hid hA
  have hemp := isEmpty_no h0
  have hgt : ¬ 1000 < (s.size : Int) := by omega
  have hne : ((s.size : Int) != (s.size : Int)) = false := by simp
  have HM := Lib.hid (hM.below ((Below.refl _ w).alloc (Nat.le_refl _) (Obj.cells #[.bool false, .string ⟨#[]⟩, .int .i64 0] 23)))
  clear hA
  go_enter Tryd.func8, Tryd.ntmps8
  go_wp2_with (first | (go_at_call 27; refine (decEnd_to _ s.size _ (by omega) h2).mono ?_; rintro e w1 ⟨rfl, rfl⟩) | (go_at_call 28; refine (HA.out _ HM.out).mono ?_; rintro e w1 ⟨rfl, hb1⟩; obtain ⟨hb1c, hb1f⟩ := bcell hb1; have hb1q := hb1.size; (try simp at hb1q); have hb1q0 : w.heap.size < w1.heap.size := (by omega)))
  refine bodyPost_ret (v := .tuple #[.agg #[.bool n', .string u, .int .i64 y'], .int .i64 c]) (by simp [results, Tryd.results8, go_sem, *]) rfl ⟨rfl, ?_⟩
  go_light
  (repeat (first | exact Below.refl _ _ | assumption | refine Below.drew ?_ | refine below_drewN ?_ _ | (refine Below.alloc ?_ (by first | exact Nat.le_refl _ | (simp; done) | (simp; omega) | (simp at *; omega)) _) | (refine Below.setCell ?_ (by first | exact Nat.le_refl _ | (simp; done) | (simp; omega)) _) | (refine Below.trans ?_ (Below.mono (by assumption) (by first | exact Nat.le_refl _ | (simp; done) | (simp; omega) | (simp at *; omega))))))
set_option maxHeartbeats 2000000 in
theorem fnExactDecRead_law (s : ByteArray) (w : World) (h : s.size ≤ 1048576) (hM : MaxCell w) (n' : Bool) (u : ByteArray) (y' c : Int)
    (hA : ∀ w, Calls Tryd.prog 7 #[.string s] w fun e w' => e = .returned (.tuple #[.agg #[.bool n', .string u, .int .i64 y'], .int .i64 c]) ∧ Below w.heap.size w w')
    (hB : ∀ w, MaxCell w → Calls Tryd.prog 8 #[.string s] w fun e w' => e = .returned (.tuple #[.agg #[.bool n', .string u, .int .i64 y'], .int .i64 c]) ∧ Below w.heap.size w w') :
    Calls Tryd.prog 3 #[.string s] w fun e w' => e = .returned (.bool true) ∧ Below w.heap.size w w' := by
  have HA := Lib.hid hA
  have HB := Lib.hid hB
  have hcc : (c != c) = false := by simp
  clear hA hB
  go_enter Tryd.func3, Tryd.ntmps3
  go_wp2_with fail
  refine (HA.out _).mono ?_
  rintro e w1 ⟨rfl, hb1⟩
  have hM1 := hM.below hb1
  go_wp2_with fail
  obtain ⟨v1, hv1, hz, hb, hc, hf⟩ := one_laid w1 n' u y'
  rw [hv1]
  refine (HB.out _ (hM1.below hb)).mono ?_
  rintro e w2 ⟨rfl, hb2⟩
  obtain ⟨hz2, hc2, hf2⟩ := one_kept hb2 hz hc hf
  have hB1 := hb1.trans (hb.mono hb1.size)
  have hB2 := hB1.trans (hb2.mono hB1.size)
  have hne : ¬ (w1.heap.size = w2.heap.size) := Nat.ne_of_lt hz2
  have hne' : ¬ (w2.heap.size = w1.heap.size) := Nat.ne_of_gt hz2
  clear hv1 hz hb hc hf hb1 hb2 hB1 hM1
  go_wp2_with fail
  refine (eqDec_same n' u y' _).mono ?_
  rintro e w3 ⟨rfl, hb3⟩
  go_wp2
  go_ret
  exact ⟨rfl, (hB2.alloc hB2.size _).trans (hb3.mono (hB2.alloc hB2.size _).size)⟩
/-- a number's text has its parts -/
theorem read_parts {s : ByteArray} (h0 : 0 < s.size) (h2 : scanN (bs s) = s.size) : ∃ sg b d1 d2 ex sg2 d3, bs s = sg ++ (b ++ ex) ∧ IsSg sg ∧ IsBody b d1 d2 ∧ IsEx ex sg2 d3 :=
  scan_parts (by rw [h2, bs_length]) (fun e => by have := bs_length s; rw [e] at this; simp at this; omega)
theorem readV_lit (sg d1 d2 sg2 d3 : List UInt8) : ∃ (n' : Bool) (u : ByteArray) (y' c : Int), readV sg d1 d2 sg2 d3 = .tuple #[.agg #[.bool n', .string u, .int .i64 y'], .int .i64 c] := by
  obtain ⟨n', u, y', c, h, -⟩ := formV_lit (decide (sg = [45])) (val (d1 ++ d2)) (exV sg2 d3 - (d2.length : Int))
  exact ⟨n', u, y', c, h⟩
theorem fnExactDecRead_walk (w : World) (hM : MaxCell w) (s : ByteArray) (hs : s.size ≤ maxLen) :
    Calls Tryd.prog 3 #[.string s] w fun e w' => e = .returned (.bool true) ∧ Below w.heap.size w w' := by
  by_cases hb : 1048576 < s.size
  · have hs' := hs
    unfold maxLen at hs'
    go_enter Tryd.func3, Tryd.ntmps3
    go_wp2
    go_ret
    exact ⟨rfl, by go_light; (repeat (first | exact Below.refl _ _ | assumption | refine Below.drew ?_ | refine below_drewN ?_ _ | (refine Below.alloc ?_ (by first | exact Nat.le_refl _ | (simp; done) | (simp; omega) | (simp at *; omega)) _) | (refine Below.setCell ?_ (by first | exact Nat.le_refl _ | (simp; done) | (simp; omega)) _) | (refine Below.trans ?_ (Below.mono (by assumption) (by first | exact Nat.le_refl _ | (simp; done) | (simp; omega) | (simp at *; omega))))))⟩
  · by_cases h : NoRead s
    · exact fnExactDecRead_law s w (by omega) hM false ⟨#[]⟩ 0 3 (fun w => specDecRead_no s w hs h) (fun w _ => implDecRead_no s w hs h)
    · have h0 : 0 < s.size := by
        rcases Nat.eq_zero_or_pos s.size with e | e
        · exact absurd (.inl e) h
        · exact e
      have h1 : s.size ≤ 1000 := Nat.le_of_not_lt fun e => h (.inr (.inl e))
      have h2 : scanN (bs s) = s.size := Classical.byContradiction fun e => h (.inr (.inr ⟨h0, h1, e⟩))
      obtain ⟨sg, b, d1, d2, ex, sg2, d3, hl, p1, p2, p3⟩ := read_parts h0 h2
      obtain ⟨n', u, y', c, hV⟩ := readV_lit sg d1 d2 sg2 d3
      exact fnExactDecRead_law s w (by omega) hM n' u y' c
        (fun w => specDecRead_yes s w h0 h1 h2 n' u y' c (fun w => by rw [← hV]; exact l03Read_any s sg b d1 d2 ex sg2 d3 w (by omega) hl p1 p2 p3))
        (fun w hM => implDecRead_yes s w hM h0 h1 h2 n' u y' c (fun w hM => by rw [← hV]; exact decRead_any s sg b d1 d2 ex sg2 d3 w hM (by omega) hl p1 p2 p3))
end Go.Proofs.YtjjpdoabagnmoaaDoor

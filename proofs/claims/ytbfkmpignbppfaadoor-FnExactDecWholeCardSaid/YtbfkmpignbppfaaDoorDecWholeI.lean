/-
  The contract of the program's DecWhole. Conditions: a number within the bounds of a walk.
-/
import Derived.Test.YtbfkmpignbppfaaDoorDecWhole
import Derived.Test.YtbfkmpignbppfaaDoorPair
namespace Go.Proofs.YtbfkmpignbppfaaDoor
open Go.RowKit
set_option linter.unusedVariables false
set_option linter.unusedSimpArgs false

theorem atoi_any (V : Nat) (w : World) (h : V ≤ 1000000000000000000) :
    Calls Tryd.prog 55 #[.string (ofL (dec V))] w fun e w' => e = .returned (.tuple #[.int .i64 (V : Int), .nilIface]) ∧ Below w.heap.size w w' := by
  have hl := dec_len_le 19 V (by decide) (by omega)
  have hs := size_ofL (dec V)
  refine (Tryd.strconv_Atoi_ok (ofL (dec V)) (by omega) (V : Int) (atoi_dec V h) w).mono ?_
  rintro e w' ⟨rfl, rfl | ⟨t, rfl⟩⟩
  · exact ⟨rfl, Below.refl _ _⟩
  · exact ⟨rfl, Go.Joins.below_bytesWorld _ _ _ _ (Nat.le_refl _)⟩

theorem implDecWhole_no (n : Bool) (s : ByteArray) (x : Int) (w : World) (hs : s.size ≤ maxLen) (hx : (Lit.int .i64 x).wf = true) (h : decOk n (bs s) x = false ∨ x < 0 ∨ 18 < x) :
    Calls Tryd.prog 24 #[.agg #[.bool n, .string s, .int .i64 x]] w fun e w' => e = .returned (.tuple #[.int .i64 0, .bool false]) ∧ Below w.heap.size w w' := by
  cases hk : decOk n (bs s) x
  · go_enter Tryd.func24, Tryd.ntmps24
    go_wp2_with (go_at_call 43; refine (isDec_any _ _ _ _ hs hx).mono ?_; rintro e w1 ⟨rfl, hb1⟩; obtain ⟨hb1c, hb1f⟩ := bcell hb1; have hb1q := hb1.size; (try simp at hb1q); have hb1q0 : w.heap.size < w1.heap.size := (by omega))
    refine bodyPost_ret (v := .tuple #[.int .i64 0, .bool false]) (by simp [results, Tryd.results24, go_sem, *]) rfl ⟨rfl, ?_⟩
    go_light
    (repeat (first | exact Below.refl _ _ | assumption | refine Below.drew ?_ | refine below_drewN ?_ _ | (refine Below.alloc ?_ (by first | exact Nat.le_refl _ | (simp; done) | (simp; omega) | (simp at *; omega)) _) | (refine Below.setCell ?_ (by first | exact Nat.le_refl _ | (simp; done) | (simp; omega)) _) | (refine Below.trans ?_ (Below.mono (by assumption) (by first | exact Nat.le_refl _ | (simp; done) | (simp; omega) | (simp at *; omega))))))
  · rw [hk] at h
    rcases (by simpa using h : x < 0 ∨ 18 < x) with h | h
    · go_enter Tryd.func24, Tryd.ntmps24
      go_wp2_with (go_at_call 43; refine (isDec_any _ _ _ _ hs hx).mono ?_; rintro e w1 ⟨rfl, hb1⟩; obtain ⟨hb1c, hb1f⟩ := bcell hb1; have hb1q := hb1.size; (try simp at hb1q); have hb1q0 : w.heap.size < w1.heap.size := (by omega))
      refine bodyPost_ret (v := .tuple #[.int .i64 0, .bool false]) (by simp [results, Tryd.results24, go_sem, *]) rfl ⟨rfl, ?_⟩
      go_light
      (repeat (first | exact Below.refl _ _ | assumption | refine Below.drew ?_ | refine below_drewN ?_ _ | (refine Below.alloc ?_ (by first | exact Nat.le_refl _ | (simp; done) | (simp; omega) | (simp at *; omega)) _) | (refine Below.setCell ?_ (by first | exact Nat.le_refl _ | (simp; done) | (simp; omega)) _) | (refine Below.trans ?_ (Below.mono (by assumption) (by first | exact Nat.le_refl _ | (simp; done) | (simp; omega) | (simp at *; omega))))))
    · go_enter Tryd.func24, Tryd.ntmps24
      go_wp2_with (go_at_call 43; refine (isDec_any _ _ _ _ hs hx).mono ?_; rintro e w1 ⟨rfl, hb1⟩; obtain ⟨hb1c, hb1f⟩ := bcell hb1; have hb1q := hb1.size; (try simp at hb1q); have hb1q0 : w.heap.size < w1.heap.size := (by omega))
      refine bodyPost_ret (v := .tuple #[.int .i64 0, .bool false]) (by simp [results, Tryd.results24, go_sem, *]) rfl ⟨rfl, ?_⟩
      go_light
      (repeat (first | exact Below.refl _ _ | assumption | refine Below.drew ?_ | refine below_drewN ?_ _ | (refine Below.alloc ?_ (by first | exact Nat.le_refl _ | (simp; done) | (simp; omega) | (simp at *; omega)) _) | (refine Below.setCell ?_ (by first | exact Nat.le_refl _ | (simp; done) | (simp; omega)) _) | (refine Below.trans ?_ (Below.mono (by assumption) (by first | exact Nat.le_refl _ | (simp; done) | (simp; omega) | (simp at *; omega))))))

theorem implDecWhole_zero (n : Bool) (s : ByteArray) (x : Int) (w : World) (hs : s.size ≤ maxLen) (hx : (Lit.int .i64 x).wf = true) (hk : decOk n (bs s) x = true) (hx0 : 0 ≤ x) (hx1 : x ≤ 18) (h0 : s.size = 0) :
    Calls Tryd.prog 24 #[.agg #[.bool n, .string s, .int .i64 x]] w fun e w' => e = .returned (.tuple #[.int .i64 0, .bool true]) ∧ Below w.heap.size w w' := by
  have hemp := isEmpty_yes h0
  clear h0
  go_enter Tryd.func24, Tryd.ntmps24
  go_wp2_with (go_at_call 43; refine (isDec_any _ _ _ _ hs hx).mono ?_; rintro e w1 ⟨rfl, hb1⟩; obtain ⟨hb1c, hb1f⟩ := bcell hb1; have hb1q := hb1.size; (try simp at hb1q); have hb1q0 : w.heap.size < w1.heap.size := (by omega))
  refine bodyPost_ret (v := .tuple #[.int .i64 0, .bool true]) (by simp [results, Tryd.results24, go_sem, *]) rfl ⟨rfl, ?_⟩
  go_light
  (repeat (first | exact Below.refl _ _ | assumption | refine Below.drew ?_ | refine below_drewN ?_ _ | (refine Below.alloc ?_ (by first | exact Nat.le_refl _ | (simp; done) | (simp; omega) | (simp at *; omega)) _) | (refine Below.setCell ?_ (by first | exact Nat.le_refl _ | (simp; done) | (simp; omega)) _) | (refine Below.trans ?_ (Below.mono (by assumption) (by first | exact Nat.le_refl _ | (simp; done) | (simp; omega) | (simp at *; omega))))))

set_option maxRecDepth 10000 in
set_option maxHeartbeats 1000000 in
theorem implDecWhole_some (n : Bool) (s : ByteArray) (k : Nat) (w : World) (hs : s.size ≤ maxLen) (hx : (Lit.int .i64 (k : Int)).wf = true) (hk : decOk n (bs s) (k : Int) = true) (hk1 : k ≤ 18) (h0 : 0 < s.size) (V : Nat) (hV : val (bs s) * 10 ^ k = V) :
    Calls Tryd.prog 24 #[.agg #[.bool n, .string s, .int .i64 (k : Int)]] w fun e w' => e = .returned (if V ≤ 1000000000000000000 then .tuple #[.int .i64 (wholeI n V), .bool true] else .tuple #[.int .i64 0, .bool false]) ∧ Below w.heap.size w w' := by
  have hemp := isEmpty_no h0
  have hcan := (form_same hk (ne_nil h0)).1
  have hSz := whole_size hk h0 k
  obtain ⟨a1, -⟩ := dec_facts hk
  have hVl : (dec V).length ≤ 40 := dec_len_le 40 V (by decide) (by rw [← hV]; exact Nat.lt_of_lt_of_le hSz.2 (Nat.pow_le_pow_right (by decide) (by omega)))
  have hsz := size_ofL (dec V)
  have hS := Lib.hid (fun w => by
    have := natShift_any s k w hcan (by omega) (by omega)
    rw [hV] at this
    exact this : ∀ w : World, Calls Tryd.prog 53 #[.string s, .int .i64 (k : Int)] w fun e w' => e = .returned (.string (ofL (dec V))) ∧ Below w.heap.size w w')
  obtain ⟨L, hL⟩ : ∃ L : ByteArray, (⟨#[49, 48, 48, 48, 48, 48, 48, 48, 48, 48, 48, 48, 48, 48, 48, 48, 48, 48, 48]⟩ : ByteArray) = L := ⟨_, rfl⟩
  have hLb : bs L = dec 1000000000000000000 := by rw [← hL, lit18, bs_ofL]
  have hC := Lib.hid (fun w => by
    have hl : (dec 1000000000000000000).length ≤ 40 := dec_len_le 40 _ (by decide) (by decide)
    have := natCmp_any (ofL (dec V)) L w (by rw [bs_ofL]; exact dec_canon V) (by rw [hLb]; exact dec_canon _) (by omega) (by rw [← bs_length, hLb]; omega)
    rw [bs_ofL, hLb, val_dec, val_dec, ← hL] at this
    exact this : ∀ w : World, Calls Tryd.prog 54 #[.string (ofL (dec V)), .string ⟨#[49, 48, 48, 48, 48, 48, 48, 48, 48, 48, 48, 48, 48, 48, 48, 48, 48, 48, 48]⟩] w fun e w' => e = .returned (.int .i64 (cmpN V 1000000000000000000)) ∧ Below w.heap.size w w')
  clear hcan hSz hL hLb
  by_cases hle : V ≤ 1000000000000000000
  · obtain ⟨q, hq⟩ : ∃ q, cmpN V 1000000000000000000 = q := ⟨_, rfl⟩
    have hq0 : q ≤ 0 := by rcases cmpN_cases V 1000000000000000000 with ⟨_, e⟩ | ⟨_, e⟩ | ⟨_, e⟩ <;> omega
    rw [hq] at hC
    have hT := Lib.hid (fun w => atoi_any V w hle)
    rw [if_pos hle]
    clear hq
    cases n
    · have e : wholeI false V = (V : Int) := rfl
      rw [e]
      go_enter Tryd.func24, Tryd.ntmps24
      go_wp2_with (first | (go_at_call 43; refine (isDec_any _ _ _ _ hs hx).mono ?_; rintro e w1 ⟨rfl, hb1⟩; obtain ⟨hb1c, hb1f⟩ := bcell hb1; have hb1q := hb1.size; (try simp at hb1q); have hb1q0 : w.heap.size < w1.heap.size := (by omega)) | (go_at_call 53; refine (hS.out _).mono ?_; rintro e w2 ⟨rfl, hb2⟩; obtain ⟨hb2c, hb2f⟩ := bcell hb2; have hb2q := hb2.size; (try simp at hb2q); have hb2q0 : w.heap.size < w2.heap.size := (by omega)) | (go_at_call 54; refine (hC.out _).mono ?_; rintro e w3 ⟨rfl, hb3⟩; obtain ⟨hb3c, hb3f⟩ := bcell hb3; have hb3q := hb3.size; (try simp at hb3q); have hb3q0 : w.heap.size < w3.heap.size := (by omega)) | (go_at_call 55; refine (hT.out _).mono ?_; rintro e w4 ⟨rfl, hb4⟩; obtain ⟨hb4c, hb4f⟩ := bcell hb4; have hb4q := hb4.size; (try simp at hb4q); have hb4q0 : w.heap.size < w4.heap.size := (by omega)))
      refine bodyPost_ret (v := .tuple #[.int .i64 (V : Int), .bool true]) (by simp [results, Tryd.results24, go_sem, *]) rfl ⟨rfl, ?_⟩
      go_light
      (repeat (first | exact Below.refl _ _ | assumption | refine Below.drew ?_ | refine below_drewN ?_ _ | (refine Below.alloc ?_ (by first | exact Nat.le_refl _ | (simp; done) | (simp; omega) | (simp at *; omega)) _) | (refine Below.setCell ?_ (by first | exact Nat.le_refl _ | (simp; done) | (simp; omega)) _) | (refine Below.trans ?_ (Below.mono (by assumption) (by first | exact Nat.le_refl _ | (simp; done) | (simp; omega) | (simp at *; omega))))))
    · have e : wholeI true V = -(V : Int) := rfl
      rw [e]
      go_enter Tryd.func24, Tryd.ntmps24
      go_wp2_with (first | (go_at_call 43; refine (isDec_any _ _ _ _ hs hx).mono ?_; rintro e w1 ⟨rfl, hb1⟩; obtain ⟨hb1c, hb1f⟩ := bcell hb1; have hb1q := hb1.size; (try simp at hb1q); have hb1q0 : w.heap.size < w1.heap.size := (by omega)) | (go_at_call 53; refine (hS.out _).mono ?_; rintro e w2 ⟨rfl, hb2⟩; obtain ⟨hb2c, hb2f⟩ := bcell hb2; have hb2q := hb2.size; (try simp at hb2q); have hb2q0 : w.heap.size < w2.heap.size := (by omega)) | (go_at_call 54; refine (hC.out _).mono ?_; rintro e w3 ⟨rfl, hb3⟩; obtain ⟨hb3c, hb3f⟩ := bcell hb3; have hb3q := hb3.size; (try simp at hb3q); have hb3q0 : w.heap.size < w3.heap.size := (by omega)) | (go_at_call 55; refine (hT.out _).mono ?_; rintro e w4 ⟨rfl, hb4⟩; obtain ⟨hb4c, hb4f⟩ := bcell hb4; have hb4q := hb4.size; (try simp at hb4q); have hb4q0 : w.heap.size < w4.heap.size := (by omega)))
      refine bodyPost_ret (v := .tuple #[.int .i64 (-(V : Int)), .bool true]) (by simp [results, Tryd.results24, go_sem, *]) rfl ⟨rfl, ?_⟩
      go_light
      (repeat (first | exact Below.refl _ _ | assumption | refine Below.drew ?_ | refine below_drewN ?_ _ | (refine Below.alloc ?_ (by first | exact Nat.le_refl _ | (simp; done) | (simp; omega) | (simp at *; omega)) _) | (refine Below.setCell ?_ (by first | exact Nat.le_refl _ | (simp; done) | (simp; omega)) _) | (refine Below.trans ?_ (Below.mono (by assumption) (by first | exact Nat.le_refl _ | (simp; done) | (simp; omega) | (simp at *; omega))))))
  · obtain ⟨q, hq⟩ : ∃ q, cmpN V 1000000000000000000 = q := ⟨_, rfl⟩
    have hq0 : 0 < q := by rcases cmpN_cases V 1000000000000000000 with ⟨_, e⟩ | ⟨_, e⟩ | ⟨_, e⟩ <;> omega
    rw [hq] at hC
    rw [if_neg hle]
    clear hq
    go_enter Tryd.func24, Tryd.ntmps24
    go_wp2_with (first | (go_at_call 43; refine (isDec_any _ _ _ _ hs hx).mono ?_; rintro e w1 ⟨rfl, hb1⟩; obtain ⟨hb1c, hb1f⟩ := bcell hb1; have hb1q := hb1.size; (try simp at hb1q); have hb1q0 : w.heap.size < w1.heap.size := (by omega)) | (go_at_call 53; refine (hS.out _).mono ?_; rintro e w2 ⟨rfl, hb2⟩; obtain ⟨hb2c, hb2f⟩ := bcell hb2; have hb2q := hb2.size; (try simp at hb2q); have hb2q0 : w.heap.size < w2.heap.size := (by omega)) | (go_at_call 54; refine (hC.out _).mono ?_; rintro e w3 ⟨rfl, hb3⟩; obtain ⟨hb3c, hb3f⟩ := bcell hb3; have hb3q := hb3.size; (try simp at hb3q); have hb3q0 : w.heap.size < w3.heap.size := (by omega)))
    refine bodyPost_ret (v := .tuple #[.int .i64 0, .bool false]) (by simp [results, Tryd.results24, go_sem, *]) rfl ⟨rfl, ?_⟩
    go_light
    (repeat (first | exact Below.refl _ _ | assumption | refine Below.drew ?_ | refine below_drewN ?_ _ | (refine Below.alloc ?_ (by first | exact Nat.le_refl _ | (simp; done) | (simp; omega) | (simp at *; omega)) _) | (refine Below.setCell ?_ (by first | exact Nat.le_refl _ | (simp; done) | (simp; omega)) _) | (refine Below.trans ?_ (Below.mono (by assumption) (by first | exact Nat.le_refl _ | (simp; done) | (simp; omega) | (simp at *; omega))))))
end Go.Proofs.YtbfkmpignbppfaaDoor

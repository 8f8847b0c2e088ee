/-
  The walk of FnExactDecText, out of the contracts. Condition: the table of strconv stands in memory.
-/
import Derived.Test.YtbfkmpignbppfaaDoorDecTextS
import Derived.Test.YtbfkmpignbppfaaDoorDecLaw
namespace Go.Proofs.YtbfkmpignbppfaaDoor
open Go.RowKit
set_option linter.unusedVariables false
set_option linter.unusedSimpArgs false

theorem betw_out {h : Int} (e : betw h (-7) 20 = false) : h < -7 ∨ 20 < h := by
  simp [betw] at e
  omega
theorem text_nil {n : Bool} {s : ByteArray} {x : Int} (h0 : s.size = 0) : ofL (textL n (bs s) x) = ⟨#[48]⟩ := by
  unfold textL; rw [if_pos (bs_empty h0)]; rfl

theorem decText_any (n : Bool) (s : ByteArray) (x : Int) (w : World) (hT : PowTab w) (hk : decOk n (bs s) x = true) :
    Calls Tryd.prog 44 #[.agg #[.bool n, .string s, .int .i64 x]] w fun e w' => e = .returned (.string (ofL (textL n (bs s) x))) ∧ Below w.heap.size w w' := by
  by_cases h0 : 0 < s.size
  · cases hw : betw (x + s.size - 1) (-7) 20
    · rcases betw_out hw with h | h
      · by_cases h1 : 1 < s.size
        · exact decText_expMN n s x w hT hk h0 hw h1 (by omega)
        · exact decText_expON n s x w hT hk h0 hw (by omega) (by omega)
      · by_cases h1 : 1 < s.size
        · exact decText_expMP n s x w hT hk h0 hw h1 (by omega)
        · exact decText_expOP n s x w hT hk h0 hw (by omega) (by omega)
    · by_cases hx : 0 ≤ x
      · exact decText_whole n s x w hk h0 hw hx
      · by_cases hh : 0 ≤ x + (s.size : Int) - 1
        · exact decText_point n s x w hk h0 hw (by omega) hh
        · exact decText_ahead n s x w hk h0 hw (by omega) (by omega)
  · rw [text_nil (by omega)]
    have hemp := isEmpty_yes (s := s) (by omega)
    go_enter Tryd.func44, Tryd.ntmps44
    go_wp2
    go_ret
    exact ⟨rfl, (Below.refl _ w).alloc (Nat.le_refl _) _⟩

theorem implDecText_no (n : Bool) (s : ByteArray) (x : Int) (w : World) (hs : s.size ≤ maxLen) (hx : (Lit.int .i64 x).wf = true) (hk : decOk n (bs s) x = false) :
    Calls Tryd.prog 17 #[.agg #[.bool n, .string s, .int .i64 x]] w fun e w' => e = .returned (.string ⟨#[]⟩) ∧ Below w.heap.size w w' := by
  go_enter Tryd.func17, Tryd.ntmps17
  go_wp2_with (go_at_call 43; refine (isDec_any _ _ _ _ hs hx).mono ?_; rintro e w1 ⟨rfl, hb1⟩; obtain ⟨hb1c, hb1f⟩ := bcell hb1; have hb1q := hb1.size; (try simp at hb1q); have hb1q0 : w.heap.size < w1.heap.size := (by omega))
  go_ret
  refine ⟨rfl, ?_⟩
  go_light
  (repeat (first | exact Below.refl _ _ | assumption | refine Below.drew ?_ | refine below_drewN ?_ _ | (refine Below.alloc ?_ (by first | exact Nat.le_refl _ | (simp; done) | (simp; omega) | (simp at *; omega)) _) | (refine Below.setCell ?_ (by first | exact Nat.le_refl _ | (simp; done) | (simp; omega)) _) | (refine Below.trans ?_ (Below.mono (by assumption) (by first | exact Nat.le_refl _ | (simp; done) | (simp; omega) | (simp at *; omega))))))
theorem implDecText_yes (n : Bool) (s : ByteArray) (x : Int) (w : World) (hT : PowTab w) (hs : s.size ≤ maxLen) (hx : (Lit.int .i64 x).wf = true) (hk : decOk n (bs s) x = true) :
    Calls Tryd.prog 17 #[.agg #[.bool n, .string s, .int .i64 x]] w fun e w' => e = .returned (.string (ofL (textL n (bs s) x))) ∧ Below w.heap.size w w' := by
  have hI := Lib.hid (fun w hT => decText_any n s x w hT hk)
  go_enter Tryd.func17, Tryd.ntmps17
  go_wp2_with fail
  refine (isDec_any n s x _ hs hx).mono ?_
  rintro e w1 ⟨rfl, hb1⟩
  rw [hk]
  obtain ⟨w0, hw0, hz0, hb0, hc0, hf0⟩ := one_laid w n s x
  rw [hw0] at hb1
  obtain ⟨hz1, hc1, hf1⟩ := one_kept hb1 hz0 hc0 hf0
  have hv1 := hb0.trans (hb1.mono hb0.size)
  clear hw0 hz0 hb0 hc0 hf0 hb1
  go_wp2_with fail
  refine (hI.out _ (hT.below hv1)).mono ?_
  rintro e w2 ⟨rfl, hb2⟩
  go_wp2
  go_ret
  exact ⟨rfl, hv1.trans (hb2.mono hv1.size)⟩

theorem specDecText_no (n : Bool) (s : ByteArray) (x : Int) (w : World) (hs : s.size ≤ maxLen) (hx : (Lit.int .i64 x).wf = true) (hk : decOk n (bs s) x = false) :
    Calls Tryd.prog 15 #[.agg #[.bool n, .string s, .int .i64 x]] w fun e w' => e = .returned (.string ⟨#[]⟩) ∧ Below w.heap.size w w' := by
  go_enter Tryd.func15, Tryd.ntmps15
  go_wp2_with (go_at_call 39; refine (specDecOk_any _ _ _ _ hs hx).mono ?_; rintro e w1 ⟨rfl, hb1⟩; obtain ⟨hb1c, hb1f⟩ := bcell hb1; have hb1q := hb1.size; (try simp at hb1q); have hb1q0 : w.heap.size < w1.heap.size := (by omega))
  go_ret
  refine ⟨rfl, ?_⟩
  go_light
  (repeat (first | exact Below.refl _ _ | assumption | refine Below.drew ?_ | refine below_drewN ?_ _ | (refine Below.alloc ?_ (by first | exact Nat.le_refl _ | (simp; done) | (simp; omega) | (simp at *; omega)) _) | (refine Below.setCell ?_ (by first | exact Nat.le_refl _ | (simp; done) | (simp; omega)) _) | (refine Below.trans ?_ (Below.mono (by assumption) (by first | exact Nat.le_refl _ | (simp; done) | (simp; omega) | (simp at *; omega))))))
theorem specDecText_yes (n : Bool) (s : ByteArray) (x : Int) (w : World) (hs : s.size ≤ maxLen) (hx : (Lit.int .i64 x).wf = true) (hk : decOk n (bs s) x = true) :
    Calls Tryd.prog 15 #[.agg #[.bool n, .string s, .int .i64 x]] w fun e w' => e = .returned (.string (ofL (textL n (bs s) x))) ∧ Below w.heap.size w w' := by
  by_cases h0 : 0 < s.size
  · cases hw : betw (x + s.size - 1) (-7) 20
    · rcases betw_out hw with h | h
      · by_cases h1 : 1 < s.size
        · exact specDecText_expMN n s x w hs hx hk h0 hw h1 (by omega)
        · exact specDecText_expON n s x w hs hx hk h0 hw (by omega) (by omega)
      · by_cases h1 : 1 < s.size
        · exact specDecText_expMP n s x w hs hx hk h0 hw h1 (by omega)
        · exact specDecText_expOP n s x w hs hx hk h0 hw (by omega) (by omega)
    · by_cases hx0 : 0 ≤ x
      · exact specDecText_whole n s x w hs hx hk h0 hw hx0
      · by_cases hh : 0 ≤ x + (s.size : Int) - 1
        · exact specDecText_point n s x w hs hx hk h0 hw (by omega) hh
        · exact specDecText_ahead n s x w hs hx hk h0 hw (by omega) (by omega)
  · rw [text_nil (by omega)]
    have hemp := isEmpty_yes (s := s) (by omega)
    go_enter Tryd.func15, Tryd.ntmps15
    go_wp2_with (go_at_call 39; refine (specDecOk_any _ _ _ _ hs hx).mono ?_; rintro e w1 ⟨rfl, hb1⟩; obtain ⟨hb1c, hb1f⟩ := bcell hb1; have hb1q := hb1.size; (try simp at hb1q); have hb1q0 : w.heap.size < w1.heap.size := (by omega))
    go_ret
    refine ⟨rfl, ?_⟩
    go_light
    (repeat (first | exact Below.refl _ _ | assumption | refine Below.drew ?_ | refine below_drewN ?_ _ | (refine Below.alloc ?_ (by first | exact Nat.le_refl _ | (simp; done) | (simp; omega) | (simp at *; omega)) _) | (refine Below.setCell ?_ (by first | exact Nat.le_refl _ | (simp; done) | (simp; omega)) _) | (refine Below.trans ?_ (Below.mono (by assumption) (by first | exact Nat.le_refl _ | (simp; done) | (simp; omega) | (simp at *; omega))))))

theorem decText_law (n : Bool) (s : ByteArray) (x : Int) (u : ByteArray) (w : World) (hT : PowTab w) (hb : s.size ≤ 1048576)
    (hA : ∀ w, Calls Tryd.prog 15 #[.agg #[.bool n, .string s, .int .i64 x]] w fun e w' => e = .returned (.string u) ∧ Below w.heap.size w w')
    (hB : ∀ w, PowTab w → Calls Tryd.prog 17 #[.agg #[.bool n, .string s, .int .i64 x]] w fun e w' => e = .returned (.string u) ∧ Below w.heap.size w w') :
    Calls Tryd.prog 3 #[.agg #[.bool n, .string s, .int .i64 x]] w fun e w' => e = .returned (.bool true) ∧ Below w.heap.size w w' := by
  have HA := Lib.hid hA
  have HB := Lib.hid hB
  clear hA hB
  go_enter Tryd.func3, Tryd.ntmps3
  go_wp2_with (first | (go_at_call 15; refine (HA.out _).mono ?_; rintro e w1 ⟨rfl, hb1⟩; obtain ⟨hb1c, hb1f⟩ := bcell hb1; have hb1q := hb1.size; (try simp at hb1q); have hb1q0 : w.heap.size < w1.heap.size := (by omega)) | (go_at_call 17; refine (HB.out _ (hT.below (by go_light; (repeat (first | exact Below.refl _ _ | assumption | refine Below.drew ?_ | refine below_drewN ?_ _ | (refine Below.alloc ?_ (by first | exact Nat.le_refl _ | (simp; done) | (simp; omega) | (simp at *; omega)) _) | (refine Below.setCell ?_ (by first | exact Nat.le_refl _ | (simp; done) | (simp; omega)) _) | (refine Below.trans ?_ (Below.mono (by assumption) (by first | exact Nat.le_refl _ | (simp; done) | (simp; omega) | (simp at *; omega))))))))).mono ?_; rintro e w2 ⟨rfl, hb2⟩; obtain ⟨hb2c, hb2f⟩ := bcell hb2; have hb2q := hb2.size; (try simp at hb2q); have hb2q0 : w.heap.size < w2.heap.size := (by omega); (try have hb2q_w10 : w1.heap.size < w2.heap.size := (by omega))) | (go_at_call 16; refine (toDec_any _ _ _ _).mono ?_; rintro e w3 ⟨rfl, hb3⟩; obtain ⟨hb3c, hb3f⟩ := bcell hb3; have hb3q := hb3.size; (try simp at hb3q); have hb3q0 : w.heap.size < w3.heap.size := (by omega); (try have hb3q_w10 : w1.heap.size < w3.heap.size := (by omega)); (try have hb3q_w20 : w2.heap.size < w3.heap.size := (by omega))) | go_in)
  go_ret
  go_light
  refine ⟨rfl, ?_⟩
  (repeat (first | exact Below.refl _ _ | assumption | refine Below.drew ?_ | refine below_drewN ?_ _ | (refine Below.alloc ?_ (by first | exact Nat.le_refl _ | (simp; done) | (simp; omega) | (simp at *; omega)) _) | (refine Below.setCell ?_ (by first | exact Nat.le_refl _ | (simp; done) | (simp; omega)) _) | (refine Below.trans ?_ (Below.mono (by assumption) (by first | exact Nat.le_refl _ | (simp; done) | (simp; omega) | (simp at *; omega))))))

theorem fnExactDecText_walk (w : World) (hT : PowTab w) (n : Bool) (s : ByteArray) (x : Int) (hs : s.size ≤ maxLen) (hx : (Lit.int .i64 x).wf = true) :
    Calls Tryd.prog 3 #[.agg #[.bool n, .string s, .int .i64 x]] w fun e w' => e = .returned (.bool true) ∧ Below w.heap.size w w' := by
  by_cases hb : 1048576 < s.size
  · have hs' := hs
    unfold maxLen at hs'
    go_enter Tryd.func3, Tryd.ntmps3
    go_wp2
    go_ret
    refine ⟨rfl, ?_⟩
    go_light
    (repeat (first | exact Below.refl _ _ | assumption | refine Below.drew ?_ | refine below_drewN ?_ _ | (refine Below.alloc ?_ (by first | exact Nat.le_refl _ | (simp; done) | (simp; omega) | (simp at *; omega)) _) | (refine Below.setCell ?_ (by first | exact Nat.le_refl _ | (simp; done) | (simp; omega)) _) | (refine Below.trans ?_ (Below.mono (by assumption) (by first | exact Nat.le_refl _ | (simp; done) | (simp; omega) | (simp at *; omega))))))
  · cases hk : decOk n (bs s) x
    · exact decText_law n s x ⟨#[]⟩ w hT (by omega) (fun w => specDecText_no n s x w hs hx hk) (fun w _ => implDecText_no n s x w hs hx hk)
    · exact decText_law n s x _ w hT (by omega) (fun w => specDecText_yes n s x w hs hx hk) (fun w hT => implDecText_yes n s x w hT hs hx hk)
end Go.Proofs.YtbfkmpignbppfaaDoor

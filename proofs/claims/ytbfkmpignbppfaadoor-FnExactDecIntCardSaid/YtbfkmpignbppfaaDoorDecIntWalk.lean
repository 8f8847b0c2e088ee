/-
  The walk of FnExactDecInt, out of the contracts. Conditions: as each theorem says.
-/
import Derived.Test.YtbfkmpignbppfaaDoorDecInt
import Derived.Test.YtbfkmpignbppfaaDoorDecLaw
namespace Go.Proofs.YtbfkmpignbppfaaDoor
open Go.RowKit
set_option linter.unusedVariables false
set_option linter.unusedSimpArgs false

theorem decInt_law (n m : Bool) (s t : ByteArray) (x y : Int) (w : World) (hb : s.size ≤ 1048576)
    (hA : ∀ w, Calls Tryd.prog 37 #[.agg #[.bool n, .string s, .int .i64 x]] w fun e w' => e = .returned (.agg #[.bool m, .string t, .int .i64 y]) ∧ Below w.heap.size w w')
    (hB : ∀ w, Calls Tryd.prog 38 #[.agg #[.bool n, .string s, .int .i64 x]] w fun e w' => e = .returned (.agg #[.bool m, .string t, .int .i64 y]) ∧ Below w.heap.size w w') :
    Calls Tryd.prog 13 #[.agg #[.bool n, .string s, .int .i64 x]] w fun e w' => e = .returned (.bool true) ∧ Below w.heap.size w w' := by
  have HA := Lib.hid hA
  have HB := Lib.hid hB
  clear hA hB
  go_enter Tryd.func13, Tryd.ntmps13
  go_wp2_with (first | (go_at_call 37; refine (HA.out _).mono ?_; rintro e w1 ⟨rfl, hb1⟩; obtain ⟨hb1c, hb1f⟩ := bcell hb1; have hb1q := hb1.size; (try simp at hb1q); have hb1q0 : w.heap.size < w1.heap.size := (by omega)) | (go_at_call 38; refine (HB.out _).mono ?_; rintro e w2 ⟨rfl, hb2⟩; obtain ⟨hb2c, hb2f⟩ := bcell hb2; have hb2q := hb2.size; (try simp at hb2q); have hb2q0 : w.heap.size < w2.heap.size := (by omega); (try have hb2q_w10 : w1.heap.size < w2.heap.size := (by omega))) | (go_at_call 16; refine (toDec_any _ _ _ _).mono ?_; rintro e w3 ⟨rfl, hb3⟩; obtain ⟨hb3c, hb3f⟩ := bcell hb3; have hb3q := hb3.size; (try simp at hb3q); have hb3q0 : w.heap.size < w3.heap.size := (by omega); (try have hb3q_w10 : w1.heap.size < w3.heap.size := (by omega)); (try have hb3q_w20 : w2.heap.size < w3.heap.size := (by omega))) | (go_at_call 20; refine (eqDec_same _ _ _ _).mono ?_; rintro e w4 ⟨rfl, hb4⟩; obtain ⟨hb4c, hb4f⟩ := bcell hb4; have hb4q := hb4.size; (try simp at hb4q); have hb4q0 : w.heap.size < w4.heap.size := (by omega); (try have hb4q_w10 : w1.heap.size < w4.heap.size := (by omega)); (try have hb4q_w20 : w2.heap.size < w4.heap.size := (by omega))) | go_in)
  go_ret
  go_light
  refine ⟨rfl, ?_⟩
  (repeat (first | exact Below.refl _ _ | assumption | refine Below.drew ?_ | refine below_drewN ?_ _ | (refine Below.alloc ?_ (by first | exact Nat.le_refl _ | (simp; done) | (simp; omega) | (simp at *; omega)) _) | (refine Below.setCell ?_ (by first | exact Nat.le_refl _ | (simp; done) | (simp; omega)) _) | (refine Below.trans ?_ (Below.mono (by assumption) (by first | exact Nat.le_refl _ | (simp; done) | (simp; omega) | (simp at *; omega))))))


theorem fnExactDecInt_walk (n : Bool) (s : ByteArray) (x : Int) (hs : s.size ≤ maxLen) (hx : (Lit.int .i64 x).wf = true) (w : World) :
    Calls Tryd.prog 13 #[.agg #[.bool n, .string s, .int .i64 x]] w fun e w' => e = .returned (.bool true) ∧ Below w.heap.size w w' := by
  by_cases hb : 1048576 < s.size
  · have hs' := hs
    unfold maxLen at hs'
    go_enter Tryd.func13, Tryd.ntmps13
    go_wp2
    go_ret
    refine ⟨rfl, ?_⟩
    go_light
    (repeat (first | exact Below.refl _ _ | assumption | refine Below.drew ?_ | refine below_drewN ?_ _ | (refine Below.alloc ?_ (by first | exact Nat.le_refl _ | (simp; done) | (simp; omega) | (simp at *; omega)) _) | (refine Below.setCell ?_ (by first | exact Nat.le_refl _ | (simp; done) | (simp; omega)) _) | (refine Below.trans ?_ (Below.mono (by assumption) (by first | exact Nat.le_refl _ | (simp; done) | (simp; omega) | (simp at *; omega))))))
  · cases hk : decOk n (bs s) x
    · exact decInt_law n false s ⟨#[]⟩ x 0 w (by omega) (fun w => specDecInt_no n s x w hs hx hk) (fun w => implDecInt_no n s x w hs hx hk)
    · by_cases hx0 : 0 ≤ x
      · exact decInt_law n n s s x x w (by omega) (fun w => specDecInt_pos n s x w hs hx hk hx0) (fun w => implDecInt_yes n s x hs hx hk n s x (fun w => decInt_pos n s x w hx0) w)
      · obtain ⟨-, a2, -⟩ := dec_facts hk
        by_cases hl : (s.size : Int) + x ≤ 0
        · exact decInt_law n false s ⟨#[]⟩ x 0 w (by omega) (fun w => specDecInt_zero n s x w hs hx hk (by omega) (by omega) hl) (fun w => implDecInt_yes n s x hs hx hk false ⟨#[]⟩ 0 (fun w => decInt_zero n s x w (by omega) (by omega) hl) w)
        · obtain ⟨n', u, y', c, hV, hI⟩ := decInt_cut n s x hk (by omega) (by omega)
          obtain ⟨n2, u2, y2, c2, hV2, hS⟩ := specDecInt_cut n s x hs hx hk (by omega) (by omega)
          rw [hV] at hV2
          simp only [Value.tuple.injEq, Array.mk.injEq, List.cons.injEq, Value.agg.injEq, Value.bool.injEq, Value.string.injEq, Value.int.injEq, true_and, and_true] at hV2
          obtain ⟨⟨rfl, rfl, rfl⟩, rfl⟩ := hV2
          exact decInt_law n n' s u x y' w (by omega) hS (fun w => implDecInt_yes n s x hs hx hk n' u y' hI w)
end Go.Proofs.YtbfkmpignbppfaaDoor

/-
  The walk of FnExactDecWhole, out of the contracts. No condition.
-/
import Derived.Test.YtbfkmpignbppfaaDoorDecWholeI
import Derived.Test.YtbfkmpignbppfaaDoorDecWholeS
import Derived.Test.YtbfkmpignbppfaaDoorDecLaw
namespace Go.Proofs.YtbfkmpignbppfaaDoor
open Go.RowKit
set_option linter.unusedVariables false
set_option linter.unusedSimpArgs false

theorem decWhole_law (n : Bool) (s : ByteArray) (x c : Int) (b : Bool) (w : World) (hb : s.size ≤ 1048576)
    (hA : ∀ w, Calls Tryd.prog 23 #[.agg #[.bool n, .string s, .int .i64 x]] w fun e w' => e = .returned (.tuple #[.int .i64 c, .bool b]) ∧ Below w.heap.size w w')
    (hB : ∀ w, Calls Tryd.prog 24 #[.agg #[.bool n, .string s, .int .i64 x]] w fun e w' => e = .returned (.tuple #[.int .i64 c, .bool b]) ∧ Below w.heap.size w w') :
    Calls Tryd.prog 6 #[.agg #[.bool n, .string s, .int .i64 x]] w fun e w' => e = .returned (.bool true) ∧ Below w.heap.size w w' := by
  have HA := Lib.hid hA
  have HB := Lib.hid hB
  have hcc : (c != c) = false := by simp
  have hbb : (b != b) = false := by simp
  clear hA hB
  go_enter Tryd.func6, Tryd.ntmps6
  go_wp2_with (first | (go_at_call 23; refine (HA.out _).mono ?_; rintro e w1 ⟨rfl, hb1⟩; obtain ⟨hb1c, hb1f⟩ := bcell hb1; have hb1q := hb1.size; (try simp at hb1q); have hb1q0 : w.heap.size < w1.heap.size := (by omega)) | (go_at_call 24; refine (HB.out _).mono ?_; rintro e w2 ⟨rfl, hb2⟩; obtain ⟨hb2c, hb2f⟩ := bcell hb2; have hb2q := hb2.size; (try simp at hb2q); have hb2q0 : w.heap.size < w2.heap.size := (by omega); (try have hb2q_w10 : w1.heap.size < w2.heap.size := (by omega))) | (go_at_call 16; refine (toDec_any _ _ _ _).mono ?_; rintro e w3 ⟨rfl, hb3⟩; obtain ⟨hb3c, hb3f⟩ := bcell hb3; have hb3q := hb3.size; (try simp at hb3q); have hb3q0 : w.heap.size < w3.heap.size := (by omega); (try have hb3q_w10 : w1.heap.size < w3.heap.size := (by omega)); (try have hb3q_w20 : w2.heap.size < w3.heap.size := (by omega))) | go_in)
  go_ret
  go_light
  refine ⟨rfl, ?_⟩
  (repeat (first | exact Below.refl _ _ | assumption | refine Below.drew ?_ | refine below_drewN ?_ _ | (refine Below.alloc ?_ (by first | exact Nat.le_refl _ | (simp; done) | (simp; omega) | (simp at *; omega)) _) | (refine Below.setCell ?_ (by first | exact Nat.le_refl _ | (simp; done) | (simp; omega)) _) | (refine Below.trans ?_ (Below.mono (by assumption) (by first | exact Nat.le_refl _ | (simp; done) | (simp; omega) | (simp at *; omega))))))

theorem fnExactDecWhole_walk (n : Bool) (s : ByteArray) (x : Int) (hs : s.size ≤ maxLen) (hx : (Lit.int .i64 x).wf = true) (w : World) :
    Calls Tryd.prog 6 #[.agg #[.bool n, .string s, .int .i64 x]] w fun e w' => e = .returned (.bool true) ∧ Below w.heap.size w w' := by
  by_cases hb : 1048576 < s.size
  · have hs' := hs
    unfold maxLen at hs'
    go_enter Tryd.func6, Tryd.ntmps6
    go_wp2
    go_ret
    refine ⟨rfl, ?_⟩
    go_light
    (repeat (first | exact Below.refl _ _ | assumption | refine Below.drew ?_ | refine below_drewN ?_ _ | (refine Below.alloc ?_ (by first | exact Nat.le_refl _ | (simp; done) | (simp; omega) | (simp at *; omega)) _) | (refine Below.setCell ?_ (by first | exact Nat.le_refl _ | (simp; done) | (simp; omega)) _) | (refine Below.trans ?_ (Below.mono (by assumption) (by first | exact Nat.le_refl _ | (simp; done) | (simp; omega) | (simp at *; omega))))))
  · have hb' : s.size ≤ 1048576 := by omega
    cases hk : decOk n (bs s) x
    · exact decWhole_law n s x 0 false w hb' (fun w => specDecWhole_no n s x w hs hx (.inl hk)) (fun w => implDecWhole_no n s x w hs hx (.inl hk))
    · by_cases hx0 : x < 0
      · exact decWhole_law n s x 0 false w hb' (fun w => specDecWhole_no n s x w hs hx (.inr (.inl hx0))) (fun w => implDecWhole_no n s x w hs hx (.inr (.inl hx0)))
      · obtain ⟨k, rfl⟩ : ∃ k : Nat, x = (k : Int) := ⟨x.toNat, by omega⟩
        obtain ⟨a1, -⟩ := dec_facts hk
        by_cases h0 : 0 < s.size
        · obtain ⟨V, hV⟩ : ∃ V, val (bs s) * 10 ^ k = V := ⟨_, rfl⟩
          obtain ⟨z1, z2⟩ := whole_size hk h0 k
          rw [hV] at z1 z2
          have e18 : (10 : Nat) ^ 18 = 1000000000000000000 := by decide
          have himpl0 : ¬ V ≤ 1000000000000000000 → ∀ w : World, Calls Tryd.prog 24 #[.agg #[.bool n, .string s, .int .i64 (k : Int)]] w fun e w' => e = .returned (.tuple #[.int .i64 0, .bool false]) ∧ Below w.heap.size w w' := fun h w => by
            by_cases hk1 : k ≤ 18
            · have := implDecWhole_some n s k w hs hx hk hk1 h0 V hV
              rw [if_neg h] at this
              exact this
            · exact implDecWhole_no n s (k : Int) w hs hx (.inr (.inr (by omega)))
          by_cases hk19 : k + s.size ≤ 19
          · by_cases h19 : (s ++ ofL (zs k)).size = 19 ∧ (s ++ ofL (zs k)) ≠ ⟨#[49, 48, 48, 48, 48, 48, 48, 48, 48, 48, 48, 48, 48, 48, 48, 48, 48, 48, 48]⟩
            · have hTb : bs (s ++ ofL (zs k)) = dec V := by
                obtain ⟨hcan, hv, -, -⟩ := form_same hk (ne_nil h0)
                rw [bs_app, bs_ofL, dec_shift hcan (by omega) k, hV]
              have hTs : (s ++ ofL (zs k)).size = s.size + k := by rw [← bs_length, bs_app, List.length_append, bs_length, bs_ofL, zs_len]
              have hVn : ¬ V ≤ 1000000000000000000 := fun hle => by
                have h18 : 10 ^ 18 ≤ V := Nat.le_trans (Nat.pow_le_pow_right (by decide) (by omega)) z1
                have hV18 : V = 1000000000000000000 := by omega
                refine h19.2 (bs_inj ?_)
                rw [hTb, hV18, lit18, bs_ofL]
              exact decWhole_law n s (k : Int) 0 false w hb' (fun w => specDecWhole_19 n s k w hs hx hk hk19 V hV _ rfl h19) (himpl0 hVn)
            · have hle : V ≤ 1000000000000000000 := by
                by_cases h18 : k + s.size ≤ 18
                · have := Nat.pow_le_pow_right (n := 10) (by decide) (show s.size + k ≤ 18 by omega)
                  omega
                · have hTs : (s ++ ofL (zs k)).size = s.size + k := by rw [← bs_length, bs_app, List.length_append, bs_length, bs_ofL, zs_len]
                  have hlit : (s ++ ofL (zs k)) = ⟨#[49, 48, 48, 48, 48, 48, 48, 48, 48, 48, 48, 48, 48, 48, 48, 48, 48, 48, 48]⟩ := Classical.byContradiction fun hn => h19 ⟨by omega, hn⟩
                  have hv : val (bs (s ++ ofL (zs k))) = V := by rw [bs_app, bs_ofL, val_zs, hV]
                  rw [← hv, hlit, lit18, bs_ofL, val_dec]
                  exact Nat.le_refl _
              refine decWhole_law n s (k : Int) (wholeI n V) true w hb' (fun w => specDecWhole_some n s k w hs hx hk hk19 V hV _ rfl h19) (fun w => ?_)
              have := implDecWhole_some n s k w hs hx hk (by omega) h0 V hV
              rw [if_pos hle] at this
              exact this
          · have hVn : ¬ V ≤ 1000000000000000000 := fun hle => by
              have h19 : 10 ^ 19 ≤ V := Nat.le_trans (Nat.pow_le_pow_right (by decide) (by omega)) z1
              have e19 : (10 : Nat) ^ 19 = 10000000000000000000 := by decide
              omega
            exact decWhole_law n s (k : Int) 0 false w hb' (fun w => specDecWhole_no n s (k : Int) w hs hx (.inr (.inr (by omega)))) (himpl0 hVn)
        · have hz : s.size = 0 := by omega
          obtain ⟨rfl, rfl, hk0⟩ := decOk_zero hk hz
          obtain rfl : k = 0 := by omega
          exact decWhole_law false ⟨#[]⟩ ((0 : Nat) : Int) 0 true w hb' (fun w => specDecWhole_some false ⟨#[]⟩ 0 w hs hx hk (by decide) 0 (by decide) _ rfl (by decide)) (fun w => implDecWhole_zero false ⟨#[]⟩ ((0 : Nat) : Int) w hs hx hk (by decide) (by decide) rfl)
end Go.Proofs.YtbfkmpignbppfaaDoor

/-
  The walk of FnDecSums, out of the contracts. No condition.
-/
import Derived.Test.YtjjpdoabagnmoaaDoorBig
import Derived.Test.YtjjpdoabagnmoaaDoorDrawDecs
import Derived.Test.YtjjpdoabagnmoaaDoorSumsLaw
import Derived.Test.YtjjpdoabagnmoaaDoorNumAt
import Derived.Test.YtjjpdoabagnmoaaDoorDecNegWalk
import Derived.Test.YtjjpdoabagnmoaaDoorDecMulWalk
import Derived.Test.YtjjpdoabagnmoaaDoorDecAddWalk
import Derived.Test.YtjjpdoabagnmoaaDoorDecSubWalk
import Derived.Deep.DeepCutAuto
import Derived.Deep.RegionHeld3
namespace Go.Proofs.YtjjpdoabagnmoaaDoor
open Go.RowKit
set_option linter.unusedVariables false
set_option linter.unusedSimpArgs false

theorem implDecNeg_ng (n : Bool) (s : ByteArray) (x : Int) (w : World) (hs : s.size ≤ maxLen) (hx : (Lit.int .i64 x).wf = true) (h : decOk n (bs s) x = true) :
    Calls Tryd.prog 21 #[.agg #[.bool n, .string s, .int .i64 x]] w fun e w' => e = .returned (.agg #[.bool (ng n s), .string s, .int .i64 x]) ∧ Below w.heap.size w w' := by
  by_cases h0 : s.size = 0
  · obtain ⟨rfl, rfl, rfl⟩ := decOk_zero h h0
    exact implDecNeg_no false ⟨#[]⟩ 0 w hs hx (.inr rfl)
  · have : ng n s = !n := by unfold ng; rw [if_neg h0]
    rw [this]
    exact implDecNeg_yes n s x w hs hx h (by omega)
/-- nine cells, kept -/
theorem nine_kept {w w1 : World} {p q r : Nat} {n : Bool} {s : ByteArray} {x : Int} {m : Bool} {t : ByteArray} {y : Int} {k : Bool} {v : ByteArray} {z : Int} (hb : Below w.heap.size w w1) (hp : p < w.heap.size ∧ q < w.heap.size ∧ r < w.heap.size)
    (h : w.cell? ⟨p, 0, none⟩ = some (.bool n) ∧ w.cell? ⟨p, 1, none⟩ = some (.string s) ∧ w.cell? ⟨p, 2, none⟩ = some (.int .i64 x) ∧ w.cell? ⟨q, 0, none⟩ = some (.bool m) ∧ w.cell? ⟨q, 1, none⟩ = some (.string t) ∧ w.cell? ⟨q, 2, none⟩ = some (.int .i64 y) ∧ w.cell? ⟨r, 0, none⟩ = some (.bool k) ∧ w.cell? ⟨r, 1, none⟩ = some (.string v) ∧ w.cell? ⟨r, 2, none⟩ = some (.int .i64 z)) :
    (p < w1.heap.size ∧ q < w1.heap.size ∧ r < w1.heap.size) ∧ (w1.cell? ⟨p, 0, none⟩ = some (.bool n) ∧ w1.cell? ⟨p, 1, none⟩ = some (.string s) ∧ w1.cell? ⟨p, 2, none⟩ = some (.int .i64 x) ∧ w1.cell? ⟨q, 0, none⟩ = some (.bool m) ∧ w1.cell? ⟨q, 1, none⟩ = some (.string t) ∧ w1.cell? ⟨q, 2, none⟩ = some (.int .i64 y) ∧ w1.cell? ⟨r, 0, none⟩ = some (.bool k) ∧ w1.cell? ⟨r, 1, none⟩ = some (.string v) ∧ w1.cell? ⟨r, 2, none⟩ = some (.int .i64 z)) := by
  obtain ⟨c, -⟩ := bcell hb
  rw [c p 0 hp.1, c p 1 hp.1, c p 2 hp.1, c q 0 hp.2.1, c q 1 hp.2.1, c q 2 hp.2.1, c r 0 hp.2.2, c r 1 hp.2.2, c r 2 hp.2.2]
  exact ⟨⟨Nat.lt_of_lt_of_le hp.1 hb.size, Nat.lt_of_lt_of_le hp.2.1 hb.size, Nat.lt_of_lt_of_le hp.2.2 hb.size⟩, h⟩
/-- two numbers' cells, a store elsewhere -/
theorem two_put {w : World} {p q g : Nat} {n : Bool} {s : ByteArray} {x : Int} {m : Bool} {t : ByteArray} {y : Int} {k : Bool} {v : ByteArray} {z : Int} {w0 : World} (hv : Below w0.heap.size w0 w) (hg : w0.heap.size ≤ g) (h1 : g ≠ p) (h2 : g ≠ q) (hp : p < w.heap.size ∧ q < w.heap.size)
    (h : w.cell? ⟨p, 0, none⟩ = some (.bool n) ∧ w.cell? ⟨p, 1, none⟩ = some (.string s) ∧ w.cell? ⟨p, 2, none⟩ = some (.int .i64 x) ∧ w.cell? ⟨q, 0, none⟩ = some (.bool m) ∧ w.cell? ⟨q, 1, none⟩ = some (.string t) ∧ w.cell? ⟨q, 2, none⟩ = some (.int .i64 y)) :
    Below w0.heap.size w0 (put3 w g k v z) ∧ (p < (put3 w g k v z).heap.size ∧ q < (put3 w g k v z).heap.size) ∧ ((put3 w g k v z).cell? ⟨p, 0, none⟩ = some (.bool n) ∧ (put3 w g k v z).cell? ⟨p, 1, none⟩ = some (.string s) ∧ (put3 w g k v z).cell? ⟨p, 2, none⟩ = some (.int .i64 x) ∧ (put3 w g k v z).cell? ⟨q, 0, none⟩ = some (.bool m) ∧ (put3 w g k v z).cell? ⟨q, 1, none⟩ = some (.string t) ∧ (put3 w g k v z).cell? ⟨q, 2, none⟩ = some (.int .i64 y)) := by
  refine ⟨below_put hv hg _ _ _, by rw [put3_size]; exact hp, ?_⟩
  rw [put3_far w 0 k v z h1, put3_far w 1 k v z h1, put3_far w 2 k v z h1, put3_far w 0 k v z h2, put3_far w 1 k v z h2, put3_far w 2 k v z h2]
  exact h

set_option maxRecDepth 100000 in
set_option maxHeartbeats 16000000 in
theorem fnDecSums_walk (w : World) (a : Option Addr) (len cap : Nat) (z : List Int) (hr : IsRow .u8 w a len cap z) :
    Calls Tryd.prog 5 #[.slice a len cap] w fun e w' => e = .returned (.bool true) ∧ Below w.heap.size w w' := by
  obtain ⟨-, -, hmax, -⟩ := isRow_row hr
  by_cases hb : 1048576 < len
  · have HBG := Lib.hid (decide_eq_true hb)
    go_enter Tryd.func5, Tryd.ntmps5
    go_wp2_with fail
    refine (big_any a len cap _ hmax).mono ?_
    rintro e w1 ⟨rfl, hw1⟩
    obtain rfl : w = w1 := hw1.symm
    rw [HBG.out]
    go_wp2
    go_ret
    exact ⟨rfl, Below.refl _ _⟩
  · have HBG := Lib.hid (decide_eq_false hb)
    go_enter Tryd.func5, Tryd.ntmps5
    go_wp2_with fail
    refine (big_any a len cap _ hmax).mono ?_
    rintro e w1 ⟨rfl, hw1⟩
    obtain rfl : w = w1 := hw1.symm
    rw [HBG.out]
    go_wp2_with fail
    refine (drawDecAdd_any a len cap z _ hr (by omega)).mono ?_
    rintro e w2 ⟨n, s, x, m, t, y, rfl, ⟨hs, ht⟩, ⟨hx, hy⟩, hb2⟩
    have hsm : s.size ≤ maxLen := by unfold maxLen; omega
    have htm : t.size ≤ maxLen := by unfold maxLen; omega
    have hxw := wf_of hx
    have hyw := wf_of hy
    go_wp2_with fail
    obtain ⟨w3, hw3, hz3, hv3, hc3⟩ := two_laid w2 n s x m t y
    rw [hw3]
    have hB3 := hb2.trans (hv3.mono hb2.size)
    have hlo : w.heap.size ≤ w2.heap.size := hb2.size
    clear hw3 hb2 hv3
    refine (specDecOk_any n s x _ hsm hxw).mono ?_
    rintro e w4 ⟨rfl, hb4⟩
    obtain ⟨hB4, hz4, hc4⟩ := two_kept hb4 hz3 hB3 hc3
    clear hb4 hz3 hB3 hc3
    have hbad : ∀ (w5 : World), (decOk n (bs s) x = false ∨ decOk m (bs t) y = false) → True := fun _ _ => trivial
    clear hbad
    cases h1 : decOk n (bs s) x
    · have hno : decOk n (bs s) x = false ∨ decOk m (bs t) y = false := .inl h1
      go_wp2_with fail
      refine (implDecAdd_no n s x m t y _ hsm hxw htm hyw hno).mono ?_
      rintro e w6 ⟨rfl, hb6⟩
      obtain ⟨hB6, hz6, hc6⟩ := two_kept hb6 hz4 hB4 hc4
      clear hb6 hz4 hB4 hc4
      go_wp2_with fail
      obtain ⟨w7, hw7, hz7, hv7, hc7, hf7⟩ := one_laid w6 false ⟨#[]⟩ 0
      rw [hw7]
      obtain ⟨hB7, hy7, hd7⟩ := two_kept hv7 hz6 hB6 hc6
      clear hw7 hv7 hz6 hB6 hc6
      refine (implDecCmp_no n s x m t y _ hsm hxw htm hyw hno).mono ?_
      rintro e w8 ⟨rfl, hb8⟩
      go_wp2
      go_ret
      exact ⟨rfl, hB7.trans (hb8.mono hB7.size)⟩
    · go_wp2_with fail
      refine (specDecOk_any m t y _ htm hyw).mono ?_
      rintro e w5 ⟨rfl, hb5⟩
      obtain ⟨hB5, hz5, hc5⟩ := two_kept hb5 hz4 hB4 hc4
      clear hb5 hz4 hB4 hc4
      cases h2 : decOk m (bs t) y
      · have hno : decOk n (bs s) x = false ∨ decOk m (bs t) y = false := .inr h2
        go_wp2_with fail
        refine (implDecAdd_no n s x m t y _ hsm hxw htm hyw hno).mono ?_
        rintro e w6 ⟨rfl, hb6⟩
        obtain ⟨hB6, hz6, hc6⟩ := two_kept hb6 hz5 hB5 hc5
        clear hb6 hz5 hB5 hc5
        go_wp2_with fail
        obtain ⟨w7, hw7, hz7, hv7, hc7, hf7⟩ := one_laid w6 false ⟨#[]⟩ 0
        rw [hw7]
        obtain ⟨hB7, hy7, hd7⟩ := two_kept hv7 hz6 hB6 hc6
        clear hw7 hv7 hz6 hB6 hc6
        refine (implDecCmp_no n s x m t y _ hsm hxw htm hyw hno).mono ?_
        rintro e w8 ⟨rfl, hb8⟩
        go_wp2
        go_ret
        exact ⟨rfl, hB7.trans (hb8.mono hB7.size)⟩
      · have hgood := And.intro h1 h2
        clear hgood
        obtain ⟨n1, u1, x1, c1, hV1⟩ := sumV_lit n (lvl s x y) m (lvl t y x) (min x y)
        obtain ⟨n2, u2, x2, c2, hV2, -⟩ := formV_lit (n != m) (val (bs s) * val (bs t)) (x + y)
        obtain ⟨n3, u3, x3, c3, hV3⟩ := sumV_lit n (lvl s x y) (ng m t) (lvl t y x) (min x y)
        have HA1 := Lib.hid (fun w => by
          have := implDecAdd_yes n s x m t y w hsm hxw htm hyw h1 h2
          rw [hV1] at this
          exact this : ∀ w : World, Calls Tryd.prog 15 #[.agg #[.bool n, .string s, .int .i64 x], .agg #[.bool m, .string t, .int .i64 y]] w fun e w' => e = .returned (.tuple #[.agg #[.bool n1, .string u1, .int .i64 x1], .int .i64 c1]) ∧ Below w.heap.size w w')
        have HA2 := Lib.hid (fun w => by
          have := implDecAdd_yes m t y n s x w htm hyw hsm hxw h2 h1
          rw [sumV_comm, show min y x = min x y by omega, hV1] at this
          exact this : ∀ w : World, Calls Tryd.prog 15 #[.agg #[.bool m, .string t, .int .i64 y], .agg #[.bool n, .string s, .int .i64 x]] w fun e w' => e = .returned (.tuple #[.agg #[.bool n1, .string u1, .int .i64 x1], .int .i64 c1]) ∧ Below w.heap.size w w')
        have HA3 := Lib.hid (fun w => by
          have := specDecAdd_yes n s x m t y w hsm hxw htm hyw h1 h2
          rw [hV1] at this
          exact this : ∀ w : World, Calls Tryd.prog 17 #[.agg #[.bool n, .string s, .int .i64 x], .agg #[.bool m, .string t, .int .i64 y]] w fun e w' => e = .returned (.tuple #[.agg #[.bool n1, .string u1, .int .i64 x1], .int .i64 c1]) ∧ Below w.heap.size w w')
        have HM1 := Lib.hid (fun w => by
          have := implDecMul_yes n s x m t y w hsm hxw htm hyw h1 h2
          rw [show mulV n s x m t y = _ from hV2] at this
          exact this : ∀ w : World, Calls Tryd.prog 18 #[.agg #[.bool n, .string s, .int .i64 x], .agg #[.bool m, .string t, .int .i64 y]] w fun e w' => e = .returned (.tuple #[.agg #[.bool n2, .string u2, .int .i64 x2], .int .i64 c2]) ∧ Below w.heap.size w w')
        have HM2 := Lib.hid (fun w => by
          have := implDecMul_yes m t y n s x w htm hyw hsm hxw h2 h1
          rw [mulV_comm, show mulV n s x m t y = _ from hV2] at this
          exact this : ∀ w : World, Calls Tryd.prog 18 #[.agg #[.bool m, .string t, .int .i64 y], .agg #[.bool n, .string s, .int .i64 x]] w fun e w' => e = .returned (.tuple #[.agg #[.bool n2, .string u2, .int .i64 x2], .int .i64 c2]) ∧ Below w.heap.size w w')
        have HM3 := Lib.hid (fun w => by
          have := specDecMul_yes n s x m t y w hsm hxw htm hyw h1 h2
          rw [show mulV n s x m t y = _ from hV2] at this
          exact this : ∀ w : World, Calls Tryd.prog 19 #[.agg #[.bool n, .string s, .int .i64 x], .agg #[.bool m, .string t, .int .i64 y]] w fun e w' => e = .returned (.tuple #[.agg #[.bool n2, .string u2, .int .i64 x2], .int .i64 c2]) ∧ Below w.heap.size w w')
        have HS1 := Lib.hid (fun w => by
          have := implDecSub_yes n s x m t y w hsm hxw htm hyw h1 h2
          rw [hV3] at this
          exact this : ∀ w : World, Calls Tryd.prog 20 #[.agg #[.bool n, .string s, .int .i64 x], .agg #[.bool m, .string t, .int .i64 y]] w fun e w' => e = .returned (.tuple #[.agg #[.bool n3, .string u3, .int .i64 x3], .int .i64 c3]) ∧ Below w.heap.size w w')
        have HS2 := Lib.hid (fun w => by
          have := implDecAdd_yes n s x (ng m t) t y w hsm hxw htm hyw h1 (ng_ok h2)
          rw [hV3] at this
          exact this : ∀ w : World, Calls Tryd.prog 15 #[.agg #[.bool n, .string s, .int .i64 x], .agg #[.bool (ng m t), .string t, .int .i64 y]] w fun e w' => e = .returned (.tuple #[.agg #[.bool n3, .string u3, .int .i64 x3], .int .i64 c3]) ∧ Below w.heap.size w w')
        have HS3 := Lib.hid (fun w => by
          have := specDecSub_yes n s x m t y w hsm hxw htm hyw h1 h2
          rw [hV3] at this
          exact this : ∀ w : World, Calls Tryd.prog 22 #[.agg #[.bool n, .string s, .int .i64 x], .agg #[.bool m, .string t, .int .i64 y]] w fun e w' => e = .returned (.tuple #[.agg #[.bool n3, .string u3, .int .i64 x3], .int .i64 c3]) ∧ Below w.heap.size w w')
        have HZ := Lib.hid (fun w => by
          have := implDecSub_yes n s x n s x w hsm hxw hsm hxw h1 h1
          rw [sub_self] at this
          exact this : ∀ w : World, Calls Tryd.prog 20 #[.agg #[.bool n, .string s, .int .i64 x], .agg #[.bool n, .string s, .int .i64 x]] w fun e w' => e = .returned (.tuple #[.agg #[.bool false, .string ⟨#[]⟩, .int .i64 0], .int .i64 0]) ∧ Below w.heap.size w w')
        have HN0 := Lib.hid (fun w => by
          have := implDecNeg_ng m t y w htm hyw h2
          exact this : ∀ w : World, Calls Tryd.prog 21 #[.agg #[.bool m, .string t, .int .i64 y]] w fun e w' => e = .returned (.agg #[.bool (ng m t), .string t, .int .i64 y]) ∧ Below w.heap.size w w')
        have HN1 := Lib.hid (fun w => by
          have := implDecNeg_ng n s x w hsm hxw h1
          exact this : ∀ w : World, Calls Tryd.prog 21 #[.agg #[.bool n, .string s, .int .i64 x]] w fun e w' => e = .returned (.agg #[.bool (ng n s), .string s, .int .i64 x]) ∧ Below w.heap.size w w')
        have HN2 := Lib.hid (fun w => by
          have := implDecNeg_ng (ng n s) s x w hsm hxw (ng_ok h1)
          rw [ng_twice] at this
          exact this : ∀ w : World, Calls Tryd.prog 21 #[.agg #[.bool (ng n s), .string s, .int .i64 x]] w fun e w' => e = .returned (.agg #[.bool n, .string s, .int .i64 x]) ∧ Below w.heap.size w w')
        obtain ⟨cc, hcc⟩ : ∃ cc, cmpS n (lvl s x y) m (lvl t y x) = cc := ⟨_, rfl⟩
        have HC1 := Lib.hid (fun w => by
          have := implDecCmp_yes n s x m t y w hsm hxw htm hyw h1 h2
          rw [hcc] at this
          exact this : ∀ w : World, Calls Tryd.prog 16 #[.agg #[.bool n, .string s, .int .i64 x], .agg #[.bool m, .string t, .int .i64 y]] w fun e w' => e = .returned (.int .i64 cc) ∧ Below w.heap.size w w')
        obtain ⟨cd, hcd⟩ : ∃ cd : Int, -cc = cd := ⟨_, rfl⟩
        have HC2 := Lib.hid (fun w => by
          have := implDecCmp_yes m t y n s x w htm hyw hsm hxw h2 h1
          rw [cmpS_anti, hcc, hcd] at this
          exact this : ∀ w : World, Calls Tryd.prog 16 #[.agg #[.bool m, .string t, .int .i64 y], .agg #[.bool n, .string s, .int .i64 x]] w fun e w' => e = .returned (.int .i64 cd) ∧ Below w.heap.size w w')
        have hccb : -1 ≤ cc ∧ cc ≤ 1 := by
          rw [← hcc]; unfold cmpS cmpN
          split <;> split <;> (try split) <;> (try split) <;> omega
        have hsame : (cc = 0 ∧ (n == m) = true ∧ (s.toList == t.toList) = true ∧ (x == y) = true) ∨ ((cc == 0) = false ∧ ((n == m) = false ∨ (s.toList == t.toList) = false ∨ (x == y) = false)) := by
          by_cases h : cc = 0
          · obtain ⟨e1, e2, e3⟩ := cmp_same h1 h2 (by rw [hcc]; exact h)
            exact .inl ⟨h, beq_iff_eq.2 e1, by rw [e2]; exact beq_self_eq_true _, beq_iff_eq.2 e3⟩
          · refine .inr ⟨beq_eq_false_iff_ne.2 h, ?_⟩
            by_cases e1 : n = m
            · by_cases e2 : s = t
              · by_cases e3 : x = y
                · subst e1 e2 e3
                  rw [cmp_self] at hcc
                  exact absurd hcc.symm h
                · exact .inr (.inr (beq_eq_false_iff_ne.2 e3))
              · exact .inr (.inl (beq_eq_false_iff_ne.2 (fun e => e2 (bs_inj (by rw [← toList_bs, ← toList_bs]; exact e)))))
            · exact .inl (beq_eq_false_iff_ne.2 e1)
        have hg1 : ¬ (w2.heap.size = w2.heap.size + 1) := by omega
        have q1 : (c1 != c1) = false := by simp
        have q2 : (c2 != c2) = false := by simp
        have q3 : (c3 != c3) = false := by simp
        have HCD := Lib.hid hcd
        clear hV1 hV2 hV3 hcc hcd
        have HSM := Lib.hid hsame
        clear hsame
        go_wp2_with fail
        refine (HA1.out _).mono ?_
        rintro e w6 ⟨rfl, hb6⟩
        obtain ⟨hB6, hz6, hc6⟩ := two_kept hb6 hz5 hB5 hc5
        clear hb6 hz5 hB5 hc5
        have hp7 : w2.heap.size + 1 < w6.heap.size := hz6.2
        go_upto_region 8 with fail
        obtain ⟨w7, hw7, hy7, hv7, hd7, hf7⟩ := one_laid w6 n1 u1 x1
        rw [hw7]
        obtain ⟨hB7, hz7, hc7⟩ := two_kept hv7 hz6 hB6 hc6
        have N7 : NumAt w7 w6.heap.size n1 u1 x1 := ⟨hy7, hd7, hf7⟩
        clear hw7 hy7 hv7 hd7 hf7 hz6 hB6 hc6
        go_wp2_with fail
        refine (HA2.out _).mono ?_
        rintro e w8 ⟨rfl, hb8⟩
        obtain ⟨hB8, hz8, hc8⟩ := two_kept hb8 hz7 hB7 hc7
        have N8 := N7.below hb8
        clear hb8 hz7 hB7 hc7 N7
        have hp9 : w6.heap.size < w8.heap.size := N8.hz
        go_upto_region 9 with fail
        obtain ⟨w9, hw9, hy9, hv9, hd9, hf9⟩ := one_laid w8 n1 u1 x1
        rw [hw9]
        obtain ⟨hB9, hz9, hc9⟩ := two_kept hv9 hz8 hB8 hc8
        have N9 := N8.below hv9
        have M9 : NumAt w9 w8.heap.size n1 u1 x1 := ⟨hy9, hd9, hf9⟩
        clear hw9 hy9 hv9 hd9 hf9 hz8 hB8 hc8 N8
        go_wp2_with fail
        refine (HA3.out _).mono ?_
        rintro e w10 ⟨rfl, hb10⟩
        obtain ⟨hB10, hz10, hc10⟩ := two_kept hb10 hz9 hB9 hc9
        have N10 := N9.below hb10
        have M10 := M9.below hb10
        clear hb10 hz9 hB9 hc9 N9 M9
        go_upto_region 10 with fail
        obtain ⟨w11, hw11, hy11, hv11, hd11, hf11⟩ := one_laid w10 n1 u1 x1
        rw [hw11]
        obtain ⟨hB11, hz11, hc11⟩ := two_kept hv11 hz10 hB10 hc10
        have N11 := N10.below hv11
        have M11 := M10.below hv11
        clear hw11 hy11 hv11 hd11 hf11 hz10 hB10 hc10 N10 M10
        obtain ⟨a0, ⟨a1, a2, a3⟩, a4, a5, a6⟩ := (show NumAt _ _ _ _ _ from N11)
        obtain ⟨b0, ⟨b1, b2, b3⟩, b4, b5, b6⟩ := (show NumAt _ _ _ _ _ from M11)
        go_wp2_with fail
        clear a0 a1 a2 a3 a4 a5 a6
        clear b0 b1 b2 b3 b4 b5 b6
        refine (HM1.out _).mono ?_
        rintro e w12 ⟨rfl, hb12⟩
        obtain ⟨hB12, hz12, hc12⟩ := two_kept hb12 hz11 hB11 hc11
        have N12 := N11.below hb12
        have M12 := M11.below hb12
        clear hb12 hz11 hB11 hc11 N11 M11
        obtain ⟨a0, ⟨a1, a2, a3⟩, a4, a5, a6⟩ := (show NumAt _ _ _ _ _ from N12)
        go_upto_region 13 with fail
        clear a0 a1 a2 a3 a4 a5 a6
        obtain ⟨w13, hw13⟩ : ∃ v, put3 w12 w6.heap.size n2 u2 x2 = v := ⟨_, rfl⟩
        have hs13 : put3 w12 w6.heap.size n2 u2 x2 = w13 := hw13
        unfold put3 at hw13
        rw [hw13]
        obtain ⟨hB13, hz13, hc13⟩ := two_put (g := w6.heap.size) (k := n2) (v := u2) (z := x2) hB12 (by omega) (by omega) (by omega) hz12 hc12
        have N13 := N12.put (m := n2) (v := u2) (y := x2)
        have M13 := M12.other (m := n2) (v := u2) (y := x2) (p := w6.heap.size) (by omega)
        rw [hs13] at hB13 hz13 hc13 N13 M13
        clear hw13 hs13 hz12 hB12 hc12 N12 M12
        go_wp2_with fail
        refine (HM2.out _).mono ?_
        rintro e w14 ⟨rfl, hb14⟩
        obtain ⟨hB14, hz14, hc14⟩ := two_kept hb14 hz13 hB13 hc13
        have N14 := N13.below hb14
        have M14 := M13.below hb14
        clear hb14 hz13 hB13 hc13 N13 M13
        obtain ⟨a0, ⟨a1, a2, a3⟩, a4, a5, a6⟩ := (show NumAt _ _ _ _ _ from M14)
        go_upto_region 14 with fail
        clear a0 a1 a2 a3 a4 a5 a6
        obtain ⟨w15, hw15⟩ : ∃ v, put3 w14 w8.heap.size n2 u2 x2 = v := ⟨_, rfl⟩
        have hs15 : put3 w14 w8.heap.size n2 u2 x2 = w15 := hw15
        unfold put3 at hw15
        rw [hw15]
        obtain ⟨hB15, hz15, hc15⟩ := two_put (g := w8.heap.size) (k := n2) (v := u2) (z := x2) hB14 (by omega) (by omega) (by omega) hz14 hc14
        have M15 := M14.put (m := n2) (v := u2) (y := x2)
        have N15 := N14.other (m := n2) (v := u2) (y := x2) (p := w8.heap.size) (by omega)
        rw [hs15] at hB15 hz15 hc15 M15 N15
        clear hw15 hs15 hz14 hB14 hc14 M14 N14
        go_wp2_with fail
        refine (HM3.out _).mono ?_
        rintro e w16 ⟨rfl, hb16⟩
        obtain ⟨hB16, hz16, hc16⟩ := two_kept hb16 hz15 hB15 hc15
        have N16 := N15.below hb16
        have M16 := M15.below hb16
        clear hb16 hz15 hB15 hc15 N15 M15
        obtain ⟨a0, ⟨a1, a2, a3⟩, a4, a5, a6⟩ := (show NumAt _ _ _ _ _ from N16)
        obtain ⟨b0, ⟨b1, b2, b3⟩, b4, b5, b6⟩ := (show NumAt _ _ _ _ _ from M16)
        go_wp2_with fail
        clear a0 a1 a2 a3 a4 a5 a6
        clear b0 b1 b2 b3 b4 b5 b6
        refine (HS1.out _).mono ?_
        rintro e w17 ⟨rfl, hb17⟩
        obtain ⟨hB17, hz17, hc17⟩ := two_kept hb17 hz16 hB16 hc16
        have N17 := N16.below hb17
        have M17 := M16.below hb17
        clear hb17 hz16 hB16 hc16 N16 M16
        obtain ⟨a0, ⟨a1, a2, a3⟩, a4, a5, a6⟩ := (show NumAt _ _ _ _ _ from N17)
        go_upto_region 18 with fail
        clear a0 a1 a2 a3 a4 a5 a6
        obtain ⟨w18, hw18⟩ : ∃ v, put3 w17 w6.heap.size n3 u3 x3 = v := ⟨_, rfl⟩
        have hs18 : put3 w17 w6.heap.size n3 u3 x3 = w18 := hw18
        unfold put3 at hw18
        rw [hw18]
        obtain ⟨hB18, hz18, hc18⟩ := two_put (g := w6.heap.size) (k := n3) (v := u3) (z := x3) hB17 (by omega) (by omega) (by omega) hz17 hc17
        have N18 := N17.put (m := n3) (v := u3) (y := x3)
        have M18 := M17.other (m := n3) (v := u3) (y := x3) (p := w6.heap.size) (by omega)
        rw [hs18] at hB18 hz18 hc18 N18 M18
        clear hw18 hs18 hz17 hB17 hc17 N17 M17
        go_cut [10] (fun c wx => c = .int .i64 c3 ∧ Below w.heap.size w wx ∧ (w2.heap.size < wx.heap.size ∧ w2.heap.size + 1 < wx.heap.size) ∧ (wx.cell? ⟨w2.heap.size, 0, none⟩ = some (.bool n) ∧ wx.cell? ⟨w2.heap.size, 1, none⟩ = some (.string s) ∧ wx.cell? ⟨w2.heap.size, 2, none⟩ = some (.int .i64 x) ∧ wx.cell? ⟨w2.heap.size + 1, 0, none⟩ = some (.bool m) ∧ wx.cell? ⟨w2.heap.size + 1, 1, none⟩ = some (.string t) ∧ wx.cell? ⟨w2.heap.size + 1, 2, none⟩ = some (.int .i64 y)) ∧ NumAt wx w6.heap.size n3 u3 x3 ∧ NumAt wx w8.heap.size n3 u3 x3)
        case first =>
          go_region_held3 (fun w' => w'.cell? ⟨w2.heap.size, 0, none⟩ = some (.bool n) ∧ w'.cell? ⟨w2.heap.size, 1, none⟩ = some (.string s) ∧ w'.cell? ⟨w2.heap.size, 2, none⟩ = some (.int .i64 x) ∧ w'.cell? ⟨w2.heap.size + 1, 0, none⟩ = some (.bool m) ∧ w'.cell? ⟨w2.heap.size + 1, 1, none⟩ = some (.string t) ∧ w'.cell? ⟨w2.heap.size + 1, 2, none⟩ = some (.int .i64 y)) (first | assumption | exact (two_put (g := w8.heap.size) (k := n3) (v := u3) (z := x3) hB20 (by omega) (by omega) (by omega) hz20 hc20).2.2 | go_keep)
            (first
              | (go_at_call 21; refine (HN0.out _).mono ?_; rintro e w19 ⟨rfl, hb19⟩; obtain ⟨hB19, hz19, hc19⟩ := two_kept hb19 (by assumption) (v := w) (by first | assumption | exact Below.drew (by assumption)) (by assumption); have N19 : NumAt w19 w6.heap.size n3 u3 x3 := (by first | exact N18.below hb19 | exact N18.drew.below hb19); have M19 : NumAt w19 w8.heap.size n2 u2 x2 := (by first | exact M18.below hb19 | exact M18.drew.below hb19); clear hb19)
              | (go_at_call 15; refine (HS2.out _).mono ?_; rintro e w20 ⟨rfl, hb20⟩; obtain ⟨hB20, hz20, hc20⟩ := two_kept hb20 (by assumption) (v := w) (by first | assumption | exact Below.drew (by assumption)) (by assumption); have N20 : NumAt w20 w6.heap.size n3 u3 x3 := (by first | exact N19.below hb20 | exact N19.drew.below hb20); have M20 : NumAt w20 w8.heap.size n2 u2 x2 := (by first | exact M19.below hb20 | exact M19.drew.below hb20); obtain ⟨a0, ⟨a1, a2, a3⟩, a4, a5, a6⟩ := M20; clear hb20))
          all_goals
            have M20 : NumAt w20 w8.heap.size n2 u2 x2 := ⟨a0, ⟨a1, a2, a3⟩, a4, a5, a6⟩
            have hne1 : ¬ (w8.heap.size = w2.heap.size) := by omega
            have hne2 : ¬ (w8.heap.size = w2.heap.size + 1) := by omega
            go_wp2_with fail
            go_meet
            obtain ⟨R1, R2, R3⟩ := two_put (g := w8.heap.size) (k := n3) (v := u3) (z := x3) hB20 (by omega) (by omega) (by omega) hz20 hc20
            have R4 := N20.other (m := n3) (v := u3) (y := x3) (p := w8.heap.size) (by omega)
            have R5 := M20.put (m := n3) (v := u3) (y := x3)
            unfold put3 at R1 R2 R3 R4 R5
            first
              | exact ⟨rfl, R1, R2, R3, R4, R5⟩
              | exact ⟨rfl, Below.drew R1, R2, R3, R4.drew, R5.drew⟩
        case rest =>
          obtain ⟨rfl, hB20, hz20, hc20, N20, M20⟩ := hcut
          go_wp2_with fail
          refine (HS3.out _).mono ?_
          rintro e w21 ⟨rfl, hb21⟩
          obtain ⟨hB21, hz21, hc21⟩ := two_kept hb21 hz20 hB20 hc20
          have N21 := N20.below hb21
          have M21 := M20.below hb21
          clear hb21 hz20 hB20 hc20 N20 M20
          obtain ⟨a0, ⟨a1, a2, a3⟩, a4, a5, a6⟩ := (show NumAt _ _ _ _ _ from N21)
          obtain ⟨b0, ⟨b1, b2, b3⟩, b4, b5, b6⟩ := (show NumAt _ _ _ _ _ from M21)
          go_wp2_with fail
          clear a0 a1 a2 a3 a4 a5 a6
          clear b0 b1 b2 b3 b4 b5 b6
          refine (HZ.out _).mono ?_
          rintro e w22 ⟨rfl, hb22⟩
          obtain ⟨hB22, hz22, hc22⟩ := two_kept hb22 hz21 hB21 hc21
          clear hb22 hz21 hB21 hc21
          go_upto_region 23 with fail
          obtain ⟨w23, hw23, hy23, hv23, hd23, hf23⟩ := one_laid w22 false ⟨#[]⟩ 0
          rw [hw23]
          obtain ⟨hB23, hz23, hc23⟩ := two_kept hv23 hz22 hB22 hc22
          have hZ : w2.heap.size < w23.heap.size ∧ w2.heap.size + 1 < w23.heap.size ∧ w22.heap.size < w23.heap.size := ⟨hz23.1, hz23.2, hy23⟩
          have hC : w23.cell? ⟨w2.heap.size, 0, none⟩ = some (.bool n) ∧ w23.cell? ⟨w2.heap.size, 1, none⟩ = some (.string s) ∧ w23.cell? ⟨w2.heap.size, 2, none⟩ = some (.int .i64 x) ∧ w23.cell? ⟨w2.heap.size + 1, 0, none⟩ = some (.bool m) ∧ w23.cell? ⟨w2.heap.size + 1, 1, none⟩ = some (.string t) ∧ w23.cell? ⟨w2.heap.size + 1, 2, none⟩ = some (.int .i64 y) ∧ w23.cell? ⟨w22.heap.size, 0, none⟩ = some (.bool false) ∧ w23.cell? ⟨w22.heap.size, 1, none⟩ = some (.string ⟨#[]⟩) ∧ w23.cell? ⟨w22.heap.size, 2, none⟩ = some (.int .i64 0) := ⟨hc23.1, hc23.2.1, hc23.2.2.1, hc23.2.2.2.1, hc23.2.2.2.2.1, hc23.2.2.2.2.2, hd23⟩
          clear hw23 hv23 hf23 hz22 hB22 hc22 hy23 hd23 hz23 hc23
          have k1 : IntKind.i64.wrap (-1) = -1 := by decide
          have k2 : IntKind.i64.wrap 1 = 1 := by decide
          have k3 : IntKind.i64.wrap 0 = 0 := by decide
          have k4 : IntKind.i64.wrap (- -1) = 1 := by decide
          have k5 : IntKind.i64.wrap (-0) = 0 := by decide
          have hcd := HCD.out
          rcases (by omega : cc = -1 ∨ cc = 0 ∨ cc = 1) with rfl | rfl | rfl
          · obtain rfl : cd = 1 := by omega
            clear hcd
            rcases HSM.out with ⟨h0, -⟩ | ⟨-, hd | hd | hd⟩
            · exact absurd h0 (by decide)
            all_goals
              go_region_held3 (fun w' => w'.cell? ⟨w2.heap.size, 0, none⟩ = some (.bool n) ∧ w'.cell? ⟨w2.heap.size, 1, none⟩ = some (.string s) ∧ w'.cell? ⟨w2.heap.size, 2, none⟩ = some (.int .i64 x) ∧ w'.cell? ⟨w2.heap.size + 1, 0, none⟩ = some (.bool m) ∧ w'.cell? ⟨w2.heap.size + 1, 1, none⟩ = some (.string t) ∧ w'.cell? ⟨w2.heap.size + 1, 2, none⟩ = some (.int .i64 y) ∧ w'.cell? ⟨w22.heap.size, 0, none⟩ = some (.bool false) ∧ w'.cell? ⟨w22.heap.size, 1, none⟩ = some (.string ⟨#[]⟩) ∧ w'.cell? ⟨w22.heap.size, 2, none⟩ = some (.int .i64 0)) (first | assumption | go_keep)
                (first
                  | (go_at_call 16; (with_reducible refine (HC1.out _).mono ?_); rintro e v31 ⟨rfl, hb31⟩; have hB31 := Below.trans (by first | assumption | exact Below.drew (by assumption)) (Below.mono hb31 (Below.size (by first | assumption | exact Below.drew (by assumption)))); obtain ⟨hz31, hc31⟩ := nine_kept hb31 (by assumption) (by assumption); clear hb31)
                  | (go_at_call 16; (with_reducible refine (HC2.out _).mono ?_); rintro e v32 ⟨rfl, hb32⟩; have hB32 := Below.trans (by first | assumption | exact Below.drew (by assumption)) (Below.mono hb32 (Below.size (by first | assumption | exact Below.drew (by assumption)))); obtain ⟨hz32, hc32⟩ := nine_kept hb32 (by assumption) (by assumption); clear hb32)
                  | (go_at_call 21; (with_reducible refine (HN1.out _).mono ?_); rintro e v33 ⟨rfl, hb33⟩; have hB33 := Below.trans (by first | assumption | exact Below.drew (by assumption)) (Below.mono hb33 (Below.size (by first | assumption | exact Below.drew (by assumption)))); obtain ⟨hz33, hc33⟩ := nine_kept hb33 (by assumption) (by assumption); clear hb33)
                  | (go_at_call 21; (with_reducible refine (HN2.out _).mono ?_); rintro e v34 ⟨rfl, hb34⟩; have hB34 := Below.trans (by first | assumption | exact Below.drew (by assumption)) (Below.mono hb34 (Below.size (by first | assumption | exact Below.drew (by assumption)))); obtain ⟨hz34, hc34⟩ := nine_kept hb34 (by assumption) (by assumption); clear hb34))
              go_wp2
              go_ret
              refine ⟨?_, by assumption⟩
              simp
          · obtain rfl : cd = 0 := by omega
            clear hcd
            rcases HSM.out with ⟨-, d1, d2, d3⟩ | ⟨h0, -⟩
            · go_region_held3 (fun w' => w'.cell? ⟨w2.heap.size, 0, none⟩ = some (.bool n) ∧ w'.cell? ⟨w2.heap.size, 1, none⟩ = some (.string s) ∧ w'.cell? ⟨w2.heap.size, 2, none⟩ = some (.int .i64 x) ∧ w'.cell? ⟨w2.heap.size + 1, 0, none⟩ = some (.bool m) ∧ w'.cell? ⟨w2.heap.size + 1, 1, none⟩ = some (.string t) ∧ w'.cell? ⟨w2.heap.size + 1, 2, none⟩ = some (.int .i64 y) ∧ w'.cell? ⟨w22.heap.size, 0, none⟩ = some (.bool false) ∧ w'.cell? ⟨w22.heap.size, 1, none⟩ = some (.string ⟨#[]⟩) ∧ w'.cell? ⟨w22.heap.size, 2, none⟩ = some (.int .i64 0)) (first | assumption | go_keep)
                (first
                  | (go_at_call 16; (with_reducible refine (HC1.out _).mono ?_); rintro e v31 ⟨rfl, hb31⟩; have hB31 := Below.trans (by first | assumption | exact Below.drew (by assumption)) (Below.mono hb31 (Below.size (by first | assumption | exact Below.drew (by assumption)))); obtain ⟨hz31, hc31⟩ := nine_kept hb31 (by assumption) (by assumption); clear hb31)
                  | (go_at_call 16; (with_reducible refine (HC2.out _).mono ?_); rintro e v32 ⟨rfl, hb32⟩; have hB32 := Below.trans (by first | assumption | exact Below.drew (by assumption)) (Below.mono hb32 (Below.size (by first | assumption | exact Below.drew (by assumption)))); obtain ⟨hz32, hc32⟩ := nine_kept hb32 (by assumption) (by assumption); clear hb32)
                  | (go_at_call 21; (with_reducible refine (HN1.out _).mono ?_); rintro e v33 ⟨rfl, hb33⟩; have hB33 := Below.trans (by first | assumption | exact Below.drew (by assumption)) (Below.mono hb33 (Below.size (by first | assumption | exact Below.drew (by assumption)))); obtain ⟨hz33, hc33⟩ := nine_kept hb33 (by assumption) (by assumption); clear hb33)
                  | (go_at_call 21; (with_reducible refine (HN2.out _).mono ?_); rintro e v34 ⟨rfl, hb34⟩; have hB34 := Below.trans (by first | assumption | exact Below.drew (by assumption)) (Below.mono hb34 (Below.size (by first | assumption | exact Below.drew (by assumption)))); obtain ⟨hz34, hc34⟩ := nine_kept hb34 (by assumption) (by assumption); clear hb34))
              go_wp2
              go_ret
              refine ⟨?_, by assumption⟩
              simp
            · exact absurd h0 (by decide)
          · obtain rfl : cd = -1 := by omega
            clear hcd
            rcases HSM.out with ⟨h0, -⟩ | ⟨-, hd | hd | hd⟩
            · exact absurd h0 (by decide)
            all_goals
              go_region_held3 (fun w' => w'.cell? ⟨w2.heap.size, 0, none⟩ = some (.bool n) ∧ w'.cell? ⟨w2.heap.size, 1, none⟩ = some (.string s) ∧ w'.cell? ⟨w2.heap.size, 2, none⟩ = some (.int .i64 x) ∧ w'.cell? ⟨w2.heap.size + 1, 0, none⟩ = some (.bool m) ∧ w'.cell? ⟨w2.heap.size + 1, 1, none⟩ = some (.string t) ∧ w'.cell? ⟨w2.heap.size + 1, 2, none⟩ = some (.int .i64 y) ∧ w'.cell? ⟨w22.heap.size, 0, none⟩ = some (.bool false) ∧ w'.cell? ⟨w22.heap.size, 1, none⟩ = some (.string ⟨#[]⟩) ∧ w'.cell? ⟨w22.heap.size, 2, none⟩ = some (.int .i64 0)) (first | assumption | go_keep)
                (first
                  | (go_at_call 16; (with_reducible refine (HC1.out _).mono ?_); rintro e v31 ⟨rfl, hb31⟩; have hB31 := Below.trans (by first | assumption | exact Below.drew (by assumption)) (Below.mono hb31 (Below.size (by first | assumption | exact Below.drew (by assumption)))); obtain ⟨hz31, hc31⟩ := nine_kept hb31 (by assumption) (by assumption); clear hb31)
                  | (go_at_call 16; (with_reducible refine (HC2.out _).mono ?_); rintro e v32 ⟨rfl, hb32⟩; have hB32 := Below.trans (by first | assumption | exact Below.drew (by assumption)) (Below.mono hb32 (Below.size (by first | assumption | exact Below.drew (by assumption)))); obtain ⟨hz32, hc32⟩ := nine_kept hb32 (by assumption) (by assumption); clear hb32)
                  | (go_at_call 21; (with_reducible refine (HN1.out _).mono ?_); rintro e v33 ⟨rfl, hb33⟩; have hB33 := Below.trans (by first | assumption | exact Below.drew (by assumption)) (Below.mono hb33 (Below.size (by first | assumption | exact Below.drew (by assumption)))); obtain ⟨hz33, hc33⟩ := nine_kept hb33 (by assumption) (by assumption); clear hb33)
                  | (go_at_call 21; (with_reducible refine (HN2.out _).mono ?_); rintro e v34 ⟨rfl, hb34⟩; have hB34 := Below.trans (by first | assumption | exact Below.drew (by assumption)) (Below.mono hb34 (Below.size (by first | assumption | exact Below.drew (by assumption)))); obtain ⟨hz34, hc34⟩ := nine_kept hb34 (by assumption) (by assumption); clear hb34))
              go_wp2
              go_ret
              refine ⟨?_, by assumption⟩
              simp
end Go.Proofs.YtjjpdoabagnmoaaDoor

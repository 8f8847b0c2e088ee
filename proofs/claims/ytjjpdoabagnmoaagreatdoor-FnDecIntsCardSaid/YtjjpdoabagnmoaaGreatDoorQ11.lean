/-
  Texts of this claim in one file, in build order: DrawDecs, IntCalls, NumAt, DecAdd, DecAddWalk, DecMulWalk, DecDivWalk, DecModWalk. Each says ahead what it proves and under which conditions.
-/
import Derived.Test.YtjjpdoabagnmoaaGreatDoorQ10
import Derived.Deep.RegionHeld3
import Derived.Test.YtjjpdoabagnmoaaGreatDoorQ08
import Derived.Test.YtjjpdoabagnmoaaGreatDoorQ09
import Derived.Test.YtjjpdoabagnmoaaGreatDoorQ07
import Derived.Deep.RegionHeld
import Derived.Test.YtjjpdoabagnmoaaGreatDoorQ04
/-
  The contracts of the draws of one number and of two: parts of whatever values; nothing that was there is written. Condition: a code of at most 2 to the 20 bytes.
-/
namespace Go.Proofs.YtjjpdoabagnmoaaGreatDoor
open Go.RowKit
set_option linter.unusedVariables false
set_option linter.unusedSimpArgs false

theorem wf_of {x : Int} (h : -9223372036854775808 ≤ x ∧ x ≤ 9223372036854775807) : (Lit.int .i64 x).wf = true := by
  simpa [Lit.wf, IntKind.min, IntKind.max, IntKind.signed, IntKind.bits] using h
/-- what a draw of one number leaves -/
def OneDec (w : World) (e : Ending) (w' : World) : Prop := ∃ (n : Bool) (s : ByteArray) (x : Int), e = .returned (.agg #[.bool n, .string s, .int .i64 x]) ∧ s.size ≤ 1000 ∧ (-9223372036854775808 ≤ x ∧ x ≤ 9223372036854775807) ∧ Below w.heap.size w w'
/-- what a draw of two numbers leaves -/
def TwoDecs (w : World) (e : Ending) (w' : World) : Prop := ∃ (n : Bool) (s : ByteArray) (x : Int) (m : Bool) (t : ByteArray) (y : Int), e = .returned (.tuple #[.agg #[.bool n, .string s, .int .i64 x], .agg #[.bool m, .string t, .int .i64 y]]) ∧ (s.size ≤ 1000 ∧ t.size ≤ 1000) ∧ ((-9223372036854775808 ≤ x ∧ x ≤ 9223372036854775807) ∧ (-9223372036854775808 ≤ y ∧ y ≤ 9223372036854775807)) ∧ Below w.heap.size w w'
theorem IsRow.below {k : IntKind} {w w' : World} {a : Option Addr} {len cap : Nat} {zs : List Int} (h : IsRow k w a len cap zs) (hb : Below w.heap.size w w') : IsRow k w' a len cap zs := by
  rcases h with h | ⟨x, ha, h1, h2, h3, hc, hw⟩
  · exact .inl h
  · refine .inr ⟨x, ha, h1, h2, h3, fun i hi => ?_, hw⟩
    have e := hc i hi
    rw [hb.cell (p := x.add i) (Lib.lt_of_cell e)]
    exact e
set_option maxRecDepth 10000 in
set_option maxHeartbeats 1000000 in
theorem drawDecText_any (a : Option Addr) (len cap : Nat) (z : List Int) (w : World) (hr : IsRow .u8 w a len cap z) (hlen : len ≤ 1048576) :
    Calls Tryz.prog 14 #[.slice a len cap] w (OneDec w) := by
  have HR := Lib.hid hr
  clear hr
  go_enter Tryz.func14, Tryz.ntmps14
  go_wp2_with fail
  obtain ⟨w0, hw0, hz0, hv0, hc0, hf0⟩ := one_laid w false ⟨#[]⟩ 0
  rw [hw0]
  clear hw0
  refine (open_any a len cap z _ (HR.out.below hv0) hlen).mono ?_
  rintro e w1 ⟨p, seed, rfl, hlo, hp, hc, hb⟩
  obtain ⟨hz1, hc1, hf1⟩ := one_kept hb hz0 hc0 hf0
  have H1 := Lib.hid (And.intro hc (hv0.trans (hb.mono hv0.size)))
  have hlow : w.heap.size < p := Nat.lt_of_lt_of_le hz0 hlo
  have HK := Lib.hid (And.intro hc1 hf1)
  clear hc hb hz0 hv0 hc0 hf0 hlo hc1 hf1
  go_wp2_with fail
  refine (dec_any p len cap 0 seed a _ H1.out.1 hp (by omega)).mono ?_
  rintro e w2 ⟨n, t, x, at2, seed2, rfl, ht, hx, hat2, hc2, hm2⟩
  have hL := Lay.mostly (p := p) (w := w1) ⟨Mostly.refl p w1, Nat.lt_trans hlow hp, HK.out.1, HK.out.2⟩ hm2 (Nat.ne_of_lt hlow)
  have hv2 := H1.out.2.trans (hm2.below (Nat.le_of_lt hlow) (Nat.le_of_lt (Nat.lt_trans hlow hp)))
  obtain ⟨q1, q2, q3⟩ := hL.hc
  obtain ⟨g1, g2, g3⟩ := hL.hf
  clear hc2 hm2 hL
  go_wp2
  refine bodyPost_ret (v := .agg #[.bool n, .string t, .int .i64 x]) (by simp [results, Tryz.results14, go_sem, *]) rfl ?_
  exact ⟨n, t, x, rfl, ht, hx, set_three hv2 (Nat.le_refl w.heap.size) _ _ _⟩
end Go.Proofs.YtjjpdoabagnmoaaGreatDoor
/-
  The contracts of DecOf, DecWhole and DecInt at ints' numbers. Conditions: bounds; for DecOf the table of strconv stands in memory.
-/
namespace Go.Proofs.YtjjpdoabagnmoaaGreatDoor
open Go.RowKit
set_option linter.unusedVariables false
set_option linter.unusedSimpArgs false

theorem decOf_int {c : Int} {n : Bool} {u : ByteArray} {x : Int} (h : IntNum c n u x) (h1 : -1000000000000000000 ≤ c) (h2 : c ≤ 1000000000000000000) (w : World) (hT : PowTab w) :
    Calls Tryz.prog 21 #[.int .i64 c] w fun e w' => e = .returned (.agg #[.bool n, .string u, .int .i64 x]) ∧ Below w.heap.size w w' :=
  implDecOf_any c w (by omega) (by omega) hT n u x 0 h.form
theorem decWhole_int {c : Int} {n : Bool} {u : ByteArray} {x : Int} (h : IntNum c n u x) (h1 : -1000000000000000 ≤ c) (h2 : c ≤ 1000000000000000) (w : World) :
    Calls Tryz.prog 24 #[.agg #[.bool n, .string u, .int .i64 x]] w fun e w' => e = .returned (.tuple #[.int .i64 c, .bool true]) ∧ Below w.heap.size w w' := by
  have hsm : u.size ≤ maxLen := by have := h.size; unfold maxLen; omega
  have hx0 := h.x0
  have hx20 := h.x20
  by_cases h0 : c = 0
  · obtain ⟨rfl, rfl, rfl⟩ := decOk_zero h.ok (h.nil h0)
    rw [h0]
    exact implDecWhole_zero false ⟨#[]⟩ 0 w hsm (wf_of ⟨by decide, by decide⟩) h.ok (by decide) (by decide) rfl
  · obtain ⟨k, rfl⟩ : ∃ k : Nat, x = (k : Int) := ⟨x.toNat, by omega⟩
    have hv := h.val
    rw [Int.toNat_natCast] at hv
    have hk : k ≤ 18 := by
      apply Classical.byContradiction
      intro hn
      have h5 : 10 ^ 19 ≤ 10 ^ k := Nat.pow_le_pow_right (by decide) (by omega)
      have h6 : (10 : Nat) ^ 19 = 10000000000000000000 := by decide
      have h7 : 1 ≤ val (bs u) := by
        rcases Nat.eq_zero_or_pos (val (bs u)) with e | e
        · rw [e, Nat.zero_mul] at hv; omega
        · exact e
      have h8 : 1 * 10 ^ k ≤ val (bs u) * 10 ^ k := Nat.mul_le_mul_right _ h7
      omega
    have hW := implDecWhole_some n u k w hsm (wf_of ⟨by omega, by omega⟩) h.ok hk (h.pos h0) c.natAbs hv
    rw [if_pos (by omega)] at hW
    have e : wholeI n c.natAbs = c := by
      unfold wholeI
      rw [h.sign]
      by_cases hc : c < 0
      · rw [decide_eq_true hc, if_pos rfl]; omega
      · rw [decide_eq_false hc, if_neg (by decide)]; omega
    rw [e] at hW
    exact hW
theorem tuple_inj {n m : Bool} {u v : ByteArray} {x y c d : Int} (h : (Value.tuple #[.agg #[.bool n, .string u, .int .i64 x], .int .i64 c]) = .tuple #[.agg #[.bool m, .string v, .int .i64 y], .int .i64 d]) : n = m ∧ u = v ∧ x = y := by
  simp only [Value.tuple.injEq, Array.mk.injEq, List.cons.injEq, Value.agg.injEq, Value.bool.injEq, Value.string.injEq, Value.int.injEq, true_and, and_true] at h
  exact ⟨h.1.1, h.1.2.1, h.1.2.2⟩
theorem decInt_quot {T : Int} {n5 : Bool} {u5 : ByteArray} {x5 : Int} (h : IntNum T n5 u5 x5) {N : Bool} {w4 : ByteArray} {z : Int} (hok : decOk N (bs w4) z = true) (hs : w4.size ≤ 20)
    (hc : (0 ≤ z ∧ formV (decide (T < 0)) T.natAbs 0 = .tuple #[.agg #[.bool N, .string w4, .int .i64 z], .int .i64 0]) ∨ (z < 0 ∧ -1000 ≤ z ∧ (w4.size : Int) + z ≤ 0 ∧ T = 0) ∨
      (z < 0 ∧ 0 < (w4.size : Int) + z ∧ cutV N w4 z = formV (decide (T < 0)) T.natAbs 0)) (w : World) :
    Calls Tryz.prog 27 #[.agg #[.bool N, .string w4, .int .i64 z]] w fun e w' => e = .returned (.agg #[.bool n5, .string u5, .int .i64 x5]) ∧ Below w.heap.size w w' := by
  obtain ⟨-, z1, z2, -⟩ := dec_facts hok
  refine implDecInt_yes N w4 z (by unfold maxLen; omega) (wf_of ⟨by omega, by omega⟩) hok n5 u5 x5 (fun w => ?_) w
  rcases hc with ⟨h0, hf⟩ | ⟨h0, h1, h2, hT⟩ | ⟨h0, h1, hf⟩
  · rw [h.form] at hf
    obtain ⟨rfl, rfl, rfl⟩ := tuple_inj hf
    exact decInt_pos _ _ _ w h0
  · have hf := h.form
    rw [hT] at hf
    rw [show formV (decide ((0 : Int) < 0)) (0 : Int).natAbs 0 = _ from nought_form _ _] at hf
    obtain ⟨rfl, rfl, rfl⟩ := tuple_inj hf
    exact decInt_zero N w4 z w h0 h1 h2
  · obtain ⟨n', u, y', c, hcv, hcall⟩ := decInt_cut N w4 z hok h0 h1
    rw [hf, h.form] at hcv
    obtain ⟨rfl, rfl, rfl⟩ := tuple_inj hcv
    exact hcall w
end Go.Proofs.YtjjpdoabagnmoaaGreatDoor
/-
  A number's three parts in a block: what calls, new blocks and stores elsewhere leave of it. No condition.
-/
namespace Go.Proofs.YtjjpdoabagnmoaaGreatDoor
open Go.RowKit
set_option linter.unusedVariables false
set_option linter.unusedSimpArgs false

structure NumAt (w : World) (p : Nat) (n : Bool) (u : ByteArray) (x : Int) : Prop where
  hz : p < w.heap.size
  hc : w.cell? ⟨p, 0, none⟩ = some (.bool n) ∧ w.cell? ⟨p, 1, none⟩ = some (.string u) ∧ w.cell? ⟨p, 2, none⟩ = some (.int .i64 x)
  hf : w.frozen? ⟨p, 0, none⟩ = false ∧ w.frozen? ⟨p, 1, none⟩ = false ∧ w.frozen? ⟨p, 2, none⟩ = false
theorem NumAt.below {w w' : World} {p : Nat} {n : Bool} {u : ByteArray} {x : Int} (h : NumAt w p n u x) (hb : Below w.heap.size w w') : NumAt w' p n u x := by
  obtain ⟨a, b, c⟩ := one_kept hb h.hz h.hc h.hf
  exact ⟨a, b, c⟩
theorem NumAt.drew {w : World} {p : Nat} {n : Bool} {u : ByteArray} {x : Int} (h : NumAt w p n u x) : NumAt w.drew p n u x := ⟨h.hz, h.hc, h.hf⟩
theorem undrew {w w1 : World} (h : Below w.drew.heap.size w.drew w1) : Below w.heap.size w w1 := ⟨h.os, h.tape, h.output, h.size, h.block⟩
def put3 (w : World) (p : Nat) (n : Bool) (u : ByteArray) (x : Int) : World := ((w.setCell ⟨p, 0, none⟩ (.bool n)).setCell ⟨p, 1, none⟩ (.string u)).setCell ⟨p, 2, none⟩ (.int .i64 x)
theorem put3_size (w : World) (p : Nat) (n : Bool) (u : ByteArray) (x : Int) : (put3 w p n u x).heap.size = w.heap.size := by simp [put3, World.setCell]
theorem put3_far (w : World) {p q : Nat} (o : Nat) (n : Bool) (u : ByteArray) (x : Int) (h : p ≠ q) : (put3 w p n u x).cell? ⟨q, o, none⟩ = w.cell? ⟨q, o, none⟩ := by
  unfold put3
  rw [World.cell?_setCell_far _ _ _ _ h, World.cell?_setCell_far _ _ _ _ h, World.cell?_setCell_far _ _ _ _ h]
theorem NumAt.other {w : World} {p q : Nat} {n m : Bool} {u v : ByteArray} {x y : Int} (h : NumAt w q n u x) (hne : p ≠ q) : NumAt (put3 w p m v y) q n u x := by
  refine ⟨by rw [put3_size]; exact h.hz, ?_, ?_⟩
  · rw [put3_far w 0 m v y hne, put3_far w 1 m v y hne, put3_far w 2 m v y hne]; exact h.hc
  · unfold put3; simpa using h.hf
theorem NumAt.put {w : World} {p : Nat} {n m : Bool} {u v : ByteArray} {x y : Int} (h : NumAt w p n u x) : NumAt (put3 w p m v y) p m v y := by
  refine ⟨by rw [put3_size]; exact h.hz, set_cells h.hc.1 h.hc.2.1 h.hc.2.2, ?_⟩
  unfold put3; simpa using h.hf
theorem numAt_new (w : World) (n : Bool) (u : ByteArray) (x : Int) : NumAt (w.alloc (Obj.cells #[.bool n, .string u, .int .i64 x] 23)) w.heap.size n u x := by
  obtain ⟨w0, hw, a, -, b, c⟩ := one_laid w n u x
  rw [hw]; exact ⟨a, b, c⟩
theorem below_put {v w : World} {p : Nat} (h : Below v.heap.size v w) (hp : v.heap.size ≤ p) (n : Bool) (u : ByteArray) (x : Int) : Below v.heap.size v (put3 w p n u x) := set_three h hp _ _ _
theorem below_new {v w : World} (h : Below v.heap.size v w) (o : Obj) : Below v.heap.size v (w.alloc o) := h.alloc h.size _
end Go.Proofs.YtjjpdoabagnmoaaGreatDoor
/-
  The contract of impl.decAdd. Condition: numbers in form.
-/
namespace Go.Proofs.YtjjpdoabagnmoaaGreatDoor
open Go.RowKit
set_option linter.unusedVariables false
set_option linter.unusedSimpArgs false

set_option maxRecDepth 10000 in
set_option maxHeartbeats 2000000 in
theorem decAdd_any (n : Bool) (s : ByteArray) (x : Int) (m : Bool) (t : ByteArray) (y : Int) (w : World) (h1 : decOk n (bs s) x = true) (h2 : decOk m (bs t) y = true) :
    Calls Tryz.prog 48 #[.agg #[.bool n, .string s, .int .i64 x], .agg #[.bool m, .string t, .int .i64 y]] w fun e w' => e = .returned (sumV n (lvl s x y) m (lvl t y x) (min x y)) ∧ Below w.heap.size w w' := by
  obtain ⟨a1, a2, a3, a4, a5, a6, a7, -, -⟩ := dec_facts h1
  obtain ⟨b1, b2, b3, b4, b5, b6, b7, -, -⟩ := dec_facts h2
  have lx := lvl_len h1 b2
  have ly := lvl_len h2 a2
  have hAL := fun w => aligned_any n s x m t y w h1 h2
  obtain ⟨X, hX⟩ : ∃ X, lvl s x y = X := ⟨_, rfl⟩
  obtain ⟨Y, hY⟩ : ∃ Y, lvl t y x = Y := ⟨_, rfl⟩
  obtain ⟨z, hz⟩ : ∃ z, min x y = z := ⟨_, rfl⟩
  have hz1 : -119 ≤ z := by omega
  have hz2 : z ≤ 99 := by omega
  rw [hX] at lx hAL ⊢
  rw [hY] at ly hAL ⊢
  rw [hz] at hAL ⊢
  have HAL := Lib.hid hAL
  have ladd := dec_add_len X Y
  have hs1 := size_ofL (dec X)
  have hs2 := size_ofL (dec Y)
  have hn0 : ¬ (w.heap.size = w.heap.size + 1 + 1) := by omega
  have hn1 : ¬ (w.heap.size + 1 + 1 = w.heap.size) := by omega
  by_cases hnm : n = m
  · subst hnm
    obtain ⟨n', u, y', c, hV, -, -, -⟩ := formV_lit n (X + Y) z
    have hA := Lib.hid (fun w => by
      have := natAdd_any (ofL (dec X)) (ofL (dec Y)) w (by rw [bs_ofL]; exact dec_all X) (by rw [bs_ofL]; exact dec_all Y) (by omega) (by omega)
      rw [bs_ofL, bs_ofL, val_dec, val_dec] at this
      exact this : ∀ w : World, Calls Tryz.prog 82 #[.string (ofL (dec X)), .string (ofL (dec Y))] w fun e w' => e = .returned (.string (ofL (dec (X + Y)))) ∧ Below w.heap.size w w')
    have hN := Lib.hid (fun w => by
      have := normal_dec n (X + Y) z w (by omega) (by omega) (by omega)
      rw [hV] at this
      exact this : ∀ w : World, Calls Tryz.prog 47 #[.bool n, .string (ofL (dec (X + Y))), .int .i64 z] w fun e w' => e = .returned (.tuple #[.agg #[.bool n', .string u, .int .i64 y'], .int .i64 c]) ∧ Below w.heap.size w w')
    have hE : sumV n X n Y z = .tuple #[.agg #[.bool n', .string u, .int .i64 y'], .int .i64 c] := by unfold sumV; rw [if_pos rfl, hV]
    rw [hE]
    clear h1 h2 a4 b4 a5 b5 hX hY hz hAL ladd lx ly hs1 hs2 hV
    go_enter Tryz.func48, Tryz.ntmps48
    go_wp2_with fail
    refine (HAL.out _).mono ?_
    rintro e w1 ⟨rfl, hb1⟩
    obtain ⟨w0, hw0, hz0, hb0, hc0, hr0⟩ := three_laid w n s x n t y
    rw [hw0] at hb1
    obtain ⟨hv1, hz1', hc1, hr1⟩ := three_kept hb1 hz0 hb0 hc0 hr0
    clear hw0 hz0 hb0 hc0 hr0 hb1
    go_wp2_with fail
    go_region_held3 (fun w' => w'.cell? ⟨w.heap.size, 0, none⟩ = some (.bool n) ∧ w'.cell? ⟨w.heap.size, 1, none⟩ = some (.string s) ∧ w'.cell? ⟨w.heap.size, 2, none⟩ = some (.int .i64 x) ∧ w'.cell? ⟨w.heap.size + 1, 0, none⟩ = some (.bool n) ∧ w'.cell? ⟨w.heap.size + 1, 1, none⟩ = some (.string t) ∧ w'.cell? ⟨w.heap.size + 1, 2, none⟩ = some (.int .i64 y)) (first | assumption | go_keep)
      (first
        | (go_at_call 82; refine (hA.out _).mono ?_; rintro e w1 ⟨rfl, hb1⟩; obtain ⟨hv1, hz1', hc1, hr1⟩ := three_kept hb1 (by assumption) (v := w) (by first | assumption | exact Below.drew (by assumption)) (by assumption) (by assumption); clear hb1)
        | (go_at_call 47; refine (hN.out _).mono ?_; rintro e w1 ⟨rfl, hb1⟩; obtain ⟨hv1, hz1', hc1, hr1⟩ := three_kept hb1 (by assumption) (v := w) (by first | assumption | exact Below.drew (by assumption)) (by assumption) (by assumption); clear hb1))
    clear hA hN
    go_wp2
    refine bodyPost_ret (v := .tuple #[.agg #[.bool n', .string u, .int .i64 y'], .int .i64 c]) (by simp [results, Tryz.results48, go_sem, *]) rfl ?_
    exact ⟨rfl, set_three (by assumption) (by omega) _ _ _⟩
  · have hnb : (n == m) = false := by simpa using hnm
    by_cases hle : Y ≤ X
    · have lsub := dec_mono (Nat.sub_le X Y)
      obtain ⟨q, hq⟩ : ∃ q, cmpN X Y = q := ⟨_, rfl⟩
      have hq0 : 0 ≤ q := by rcases cmpN_cases X Y with ⟨_, e⟩ | ⟨_, e⟩ | ⟨_, e⟩ <;> omega
      obtain ⟨n', u, y', c, hV, -, -, -⟩ := formV_lit n (X - Y) z
      have hA := Lib.hid (fun w => by
        have := natSub_any (ofL (dec X)) (ofL (dec Y)) w (by rw [bs_ofL]; exact dec_all X) (by rw [bs_ofL]; exact dec_all Y) (by omega) (by omega) (by rw [bs_ofL, bs_ofL, val_dec, val_dec]; omega)
        rw [bs_ofL, bs_ofL, val_dec, val_dec] at this
        exact this : ∀ w : World, Calls Tryz.prog 83 #[.string (ofL (dec X)), .string (ofL (dec Y))] w fun e w' => e = .returned (.string (ofL (dec (X - Y)))) ∧ Below w.heap.size w w')
      have hN := Lib.hid (fun w => by
        have := normal_dec n (X - Y) z w (by omega) (by omega) (by omega)
        rw [hV] at this
        exact this : ∀ w : World, Calls Tryz.prog 47 #[.bool n, .string (ofL (dec (X - Y))), .int .i64 z] w fun e w' => e = .returned (.tuple #[.agg #[.bool n', .string u, .int .i64 y'], .int .i64 c]) ∧ Below w.heap.size w w')
      have hE : sumV n X m Y z = .tuple #[.agg #[.bool n', .string u, .int .i64 y'], .int .i64 c] := by unfold sumV; rw [if_neg hnm, if_pos hle, hV]
      rw [hE]
      have hC := Lib.hid (fun w => by
        have := natCmp_any (ofL (dec X)) (ofL (dec Y)) w (by rw [bs_ofL]; exact dec_canon X) (by rw [bs_ofL]; exact dec_canon Y) (by omega) (by omega)
        rw [bs_ofL, bs_ofL, val_dec, val_dec, hq] at this
        exact this : ∀ w : World, Calls Tryz.prog 51 #[.string (ofL (dec X)), .string (ofL (dec Y))] w fun e w' => e = .returned (.int .i64 q) ∧ Below w.heap.size w w')
      clear h1 h2 a4 b4 a5 b5 hX hY hz hAL ladd lx ly hs1 hs2 hV
      go_enter Tryz.func48, Tryz.ntmps48
      go_wp2_with fail
      refine (HAL.out _).mono ?_
      rintro e w1 ⟨rfl, hb1⟩
      obtain ⟨w0, hw0, hz0, hb0, hc0, hr0⟩ := three_laid w n s x m t y
      rw [hw0] at hb1
      obtain ⟨hv1, hz1', hc1, hr1⟩ := three_kept hb1 hz0 hb0 hc0 hr0
      clear hw0 hz0 hb0 hc0 hr0 hb1
      go_wp2_with fail
      refine (hC.out _).mono ?_
      rintro e w2 ⟨rfl, hb2⟩
      obtain ⟨hv2, hz2', hc2, hr2⟩ := three_kept hb2 hz1' hv1 hc1 hr1
      clear hz1' hv1 hc1 hr1 hb2
      go_wp2_with fail
      go_region_held3 (fun w' => w'.cell? ⟨w.heap.size, 0, none⟩ = some (.bool n) ∧ w'.cell? ⟨w.heap.size, 1, none⟩ = some (.string s) ∧ w'.cell? ⟨w.heap.size, 2, none⟩ = some (.int .i64 x) ∧ w'.cell? ⟨w.heap.size + 1, 0, none⟩ = some (.bool m) ∧ w'.cell? ⟨w.heap.size + 1, 1, none⟩ = some (.string t) ∧ w'.cell? ⟨w.heap.size + 1, 2, none⟩ = some (.int .i64 y)) (first | assumption | go_keep)
        (first
          | (go_at_call 83; refine (hA.out _).mono ?_; rintro e w1 ⟨rfl, hb1⟩; obtain ⟨hv1, hz1', hc1, hr1⟩ := three_kept hb1 (by assumption) (v := w) (by first | assumption | exact Below.drew (by assumption)) (by assumption) (by assumption); clear hb1)
          | (go_at_call 47; refine (hN.out _).mono ?_; rintro e w1 ⟨rfl, hb1⟩; obtain ⟨hv1, hz1', hc1, hr1⟩ := three_kept hb1 (by assumption) (v := w) (by first | assumption | exact Below.drew (by assumption)) (by assumption) (by assumption); clear hb1))
      clear hA hN
      go_wp2
      refine bodyPost_ret (v := .tuple #[.agg #[.bool n', .string u, .int .i64 y'], .int .i64 c]) (by simp [results, Tryz.results48, go_sem, *]) rfl ?_
      exact ⟨rfl, set_three (by assumption) (by omega) _ _ _⟩
    · have lsub := dec_mono (Nat.sub_le Y X)
      obtain ⟨q, hq⟩ : ∃ q, cmpN X Y = q := ⟨_, rfl⟩
      have hq0 : q < 0 := by rcases cmpN_cases X Y with ⟨_, e⟩ | ⟨_, e⟩ | ⟨_, e⟩ <;> omega
      obtain ⟨n', u, y', c, hV, -, -, -⟩ := formV_lit m (Y - X) z
      have hA := Lib.hid (fun w => by
        have := natSub_any (ofL (dec Y)) (ofL (dec X)) w (by rw [bs_ofL]; exact dec_all Y) (by rw [bs_ofL]; exact dec_all X) (by omega) (by omega) (by rw [bs_ofL, bs_ofL, val_dec, val_dec]; omega)
        rw [bs_ofL, bs_ofL, val_dec, val_dec] at this
        exact this : ∀ w : World, Calls Tryz.prog 83 #[.string (ofL (dec Y)), .string (ofL (dec X))] w fun e w' => e = .returned (.string (ofL (dec (Y - X)))) ∧ Below w.heap.size w w')
      have hN := Lib.hid (fun w => by
        have := normal_dec m (Y - X) z w (by omega) (by omega) (by omega)
        rw [hV] at this
        exact this : ∀ w : World, Calls Tryz.prog 47 #[.bool m, .string (ofL (dec (Y - X))), .int .i64 z] w fun e w' => e = .returned (.tuple #[.agg #[.bool n', .string u, .int .i64 y'], .int .i64 c]) ∧ Below w.heap.size w w')
      have hE : sumV n X m Y z = .tuple #[.agg #[.bool n', .string u, .int .i64 y'], .int .i64 c] := by unfold sumV; rw [if_neg hnm, if_neg hle, hV]
      rw [hE]
      have hC := Lib.hid (fun w => by
        have := natCmp_any (ofL (dec X)) (ofL (dec Y)) w (by rw [bs_ofL]; exact dec_canon X) (by rw [bs_ofL]; exact dec_canon Y) (by omega) (by omega)
        rw [bs_ofL, bs_ofL, val_dec, val_dec, hq] at this
        exact this : ∀ w : World, Calls Tryz.prog 51 #[.string (ofL (dec X)), .string (ofL (dec Y))] w fun e w' => e = .returned (.int .i64 q) ∧ Below w.heap.size w w')
      clear h1 h2 a4 b4 a5 b5 hX hY hz hAL ladd lx ly hs1 hs2 hV
      go_enter Tryz.func48, Tryz.ntmps48
      go_wp2_with fail
      refine (HAL.out _).mono ?_
      rintro e w1 ⟨rfl, hb1⟩
      obtain ⟨w0, hw0, hz0, hb0, hc0, hr0⟩ := three_laid w n s x m t y
      rw [hw0] at hb1
      obtain ⟨hv1, hz1', hc1, hr1⟩ := three_kept hb1 hz0 hb0 hc0 hr0
      clear hw0 hz0 hb0 hc0 hr0 hb1
      go_wp2_with fail
      refine (hC.out _).mono ?_
      rintro e w2 ⟨rfl, hb2⟩
      obtain ⟨hv2, hz2', hc2, hr2⟩ := three_kept hb2 hz1' hv1 hc1 hr1
      clear hz1' hv1 hc1 hr1 hb2
      go_wp2_with fail
      go_region_held3 (fun w' => w'.cell? ⟨w.heap.size, 0, none⟩ = some (.bool n) ∧ w'.cell? ⟨w.heap.size, 1, none⟩ = some (.string s) ∧ w'.cell? ⟨w.heap.size, 2, none⟩ = some (.int .i64 x) ∧ w'.cell? ⟨w.heap.size + 1, 0, none⟩ = some (.bool m) ∧ w'.cell? ⟨w.heap.size + 1, 1, none⟩ = some (.string t) ∧ w'.cell? ⟨w.heap.size + 1, 2, none⟩ = some (.int .i64 y)) (first | assumption | go_keep)
        (first
          | (go_at_call 83; refine (hA.out _).mono ?_; rintro e w1 ⟨rfl, hb1⟩; obtain ⟨hv1, hz1', hc1, hr1⟩ := three_kept hb1 (by assumption) (v := w) (by first | assumption | exact Below.drew (by assumption)) (by assumption) (by assumption); clear hb1)
          | (go_at_call 47; refine (hN.out _).mono ?_; rintro e w1 ⟨rfl, hb1⟩; obtain ⟨hv1, hz1', hc1, hr1⟩ := three_kept hb1 (by assumption) (v := w) (by first | assumption | exact Below.drew (by assumption)) (by assumption) (by assumption); clear hb1))
      clear hA hN
      go_wp2
      refine bodyPost_ret (v := .tuple #[.agg #[.bool n', .string u, .int .i64 y'], .int .i64 c]) (by simp [results, Tryz.results48, go_sem, *]) rfl ?_
      exact ⟨rfl, set_three (by assumption) (by omega) _ _ _⟩
end Go.Proofs.YtjjpdoabagnmoaaGreatDoor
/-
  The contracts of both sides' DecAdd. Condition: numbers in form.
-/
namespace Go.Proofs.YtjjpdoabagnmoaaGreatDoor
open Go.RowKit
set_option linter.unusedVariables false
set_option linter.unusedSimpArgs false

theorem implDecAdd_no (n : Bool) (s : ByteArray) (x : Int) (m : Bool) (t : ByteArray) (y : Int) (w : World) (hs : s.size ≤ maxLen) (hx : (Lit.int .i64 x).wf = true) (ht : t.size ≤ maxLen) (hy : (Lit.int .i64 y).wf = true) (h : decOk n (bs s) x = false ∨ decOk m (bs t) y = false) :
    Calls Tryz.prog 22 #[.agg #[.bool n, .string s, .int .i64 x], .agg #[.bool m, .string t, .int .i64 y]] w fun e w' => e = .returned (.tuple #[.agg #[.bool false, .string ⟨#[]⟩, .int .i64 0], .int .i64 3]) ∧ Below w.heap.size w w' := by
  have hn0 : ¬ (w.heap.size = w.heap.size + 1 + 1) := by omega
  have hn1 : ¬ (w.heap.size + 1 + 1 = w.heap.size) := by omega
  cases h1 : decOk n (bs s) x
  · go_enter Tryz.func22, Tryz.ntmps22
    go_wp2_with fail
    refine (isDec_any n s x _ hs hx).mono ?_
    rintro e w1 ⟨rfl, hb1⟩
    rw [h1]
    obtain ⟨w0, hw0, hz0, hb0, hc0, hr0⟩ := three_laid w n s x m t y
    rw [hw0] at hb1
    obtain ⟨hv1, hz1, hc1, hr1⟩ := three_kept hb1 hz0 hb0 hc0 hr0
    clear hw0 hz0 hb0 hc0 hr0 hb1
    go_wp2
    refine bodyPost_ret (v := .tuple #[.agg #[.bool false, .string ⟨#[]⟩, .int .i64 0], .int .i64 3]) (by simp [results, Tryz.results22, go_sem, *]) rfl ⟨rfl, ?_⟩
    exact set_three hv1 (by omega) _ _ _
  · have h2 : decOk m (bs t) y = false := by simpa [h1] using h
    go_enter Tryz.func22, Tryz.ntmps22
    go_wp2_with fail
    refine (isDec_any n s x _ hs hx).mono ?_
    rintro e w1 ⟨rfl, hb1⟩
    rw [h1]
    obtain ⟨w0, hw0, hz0, hb0, hc0, hr0⟩ := three_laid w n s x m t y
    rw [hw0] at hb1
    obtain ⟨hv1, hz1, hc1, hr1⟩ := three_kept hb1 hz0 hb0 hc0 hr0
    clear hw0 hz0 hb0 hc0 hr0 hb1
    go_wp2_with fail
    refine (isDec_any m t y _ ht hy).mono ?_
    rintro e w2 ⟨rfl, hb2⟩
    rw [h2]
    obtain ⟨hv2, hz2, hc2, hr2⟩ := three_kept hb2 hz1 hv1 hc1 hr1
    clear hz1 hv1 hc1 hr1 hb2
    go_wp2
    refine bodyPost_ret (v := .tuple #[.agg #[.bool false, .string ⟨#[]⟩, .int .i64 0], .int .i64 3]) (by simp [results, Tryz.results22, go_sem, *]) rfl ⟨rfl, ?_⟩
    exact set_three hv2 (by omega) _ _ _


set_option maxRecDepth 10000 in
set_option maxHeartbeats 1000000 in
theorem implDecAdd_yes (n : Bool) (s : ByteArray) (x : Int) (m : Bool) (t : ByteArray) (y : Int) (w : World) (hs : s.size ≤ maxLen) (hx : (Lit.int .i64 x).wf = true) (ht : t.size ≤ maxLen) (hy : (Lit.int .i64 y).wf = true) (h1 : decOk n (bs s) x = true) (h2 : decOk m (bs t) y = true) :
    Calls Tryz.prog 22 #[.agg #[.bool n, .string s, .int .i64 x], .agg #[.bool m, .string t, .int .i64 y]] w fun e w' => e = .returned (sumV n (lvl s x y) m (lvl t y x) (min x y)) ∧ Below w.heap.size w w' := by
  obtain ⟨n', u, y', c, hV, -, -, -⟩ := formV_lit (sumN n (lvl s x y) m (lvl t y x)).1 (sumN n (lvl s x y) m (lvl t y x)).2 (min x y)
  have hI := Lib.hid (fun w => by
    have := decAdd_any n s x m t y w h1 h2
    rw [sumV_N, hV] at this
    exact this : ∀ w : World, Calls Tryz.prog 48 #[.agg #[.bool n, .string s, .int .i64 x], .agg #[.bool m, .string t, .int .i64 y]] w fun e w' => e = .returned (.tuple #[.agg #[.bool n', .string u, .int .i64 y'], .int .i64 c]) ∧ Below w.heap.size w w')
  rw [sumV_N, hV]
  clear hV
  have hn0 : ¬ (w.heap.size = w.heap.size + 1 + 1) := by omega
  have hn1 : ¬ (w.heap.size + 1 + 1 = w.heap.size) := by omega
  go_enter Tryz.func22, Tryz.ntmps22
  go_wp2_with fail
  refine (isDec_any n s x _ hs hx).mono ?_
  rintro e w1 ⟨rfl, hb1⟩
  rw [h1]
  obtain ⟨w0, hw0, hz0, hb0, hc0, hr0⟩ := three_laid w n s x m t y
  rw [hw0] at hb1
  obtain ⟨hv1, hz1, hc1, hr1⟩ := three_kept hb1 hz0 hb0 hc0 hr0
  clear hw0 hz0 hb0 hc0 hr0 hb1
  go_wp2_with fail
  refine (isDec_any m t y _ ht hy).mono ?_
  rintro e w2 ⟨rfl, hb2⟩
  rw [h2]
  obtain ⟨hv2, hz2, hc2, hr2⟩ := three_kept hb2 hz1 hv1 hc1 hr1
  clear hz1 hv1 hc1 hr1 hb2
  clear h1 h2
  go_wp2_with fail
  refine (hI.out _).mono ?_
  rintro e w3 ⟨rfl, hb3⟩
  obtain ⟨hv3, hz3, hc3, hr3⟩ := three_kept hb3 hz2 hv2 hc2 hr2
  clear hb3 hz2 hv2 hc2 hr2
  clear hI
  go_wp2
  refine bodyPost_ret (v := .tuple #[.agg #[.bool n', .string u, .int .i64 y'], .int .i64 c]) (by simp [results, Tryz.results22, go_sem, *]) rfl ?_
  exact ⟨rfl, set_three (by assumption) (by omega) _ _ _⟩


end Go.Proofs.YtjjpdoabagnmoaaGreatDoor
/-
  The contracts of both sides' DecMul. Condition: numbers in form.
-/
namespace Go.Proofs.YtjjpdoabagnmoaaGreatDoor
open Go.RowKit
set_option linter.unusedVariables false
set_option linter.unusedSimpArgs false

theorem implDecMul_no (n : Bool) (s : ByteArray) (x : Int) (m : Bool) (t : ByteArray) (y : Int) (w : World) (hs : s.size ≤ maxLen) (hx : (Lit.int .i64 x).wf = true) (ht : t.size ≤ maxLen) (hy : (Lit.int .i64 y).wf = true) (h : decOk n (bs s) x = false ∨ decOk m (bs t) y = false) :
    Calls Tryz.prog 23 #[.agg #[.bool n, .string s, .int .i64 x], .agg #[.bool m, .string t, .int .i64 y]] w fun e w' => e = .returned (.tuple #[.agg #[.bool false, .string ⟨#[]⟩, .int .i64 0], .int .i64 3]) ∧ Below w.heap.size w w' := by
  have hn0 : ¬ (w.heap.size = w.heap.size + 1 + 1) := by omega
  have hn1 : ¬ (w.heap.size + 1 + 1 = w.heap.size) := by omega
  cases h1 : decOk n (bs s) x
  · go_enter Tryz.func23, Tryz.ntmps23
    go_wp2_with fail
    refine (isDec_any n s x _ hs hx).mono ?_
    rintro e w1 ⟨rfl, hb1⟩
    rw [h1]
    obtain ⟨w0, hw0, hz0, hb0, hc0, hr0⟩ := three_laid w n s x m t y
    rw [hw0] at hb1
    obtain ⟨hv1, hz1, hc1, hr1⟩ := three_kept hb1 hz0 hb0 hc0 hr0
    clear hw0 hz0 hb0 hc0 hr0 hb1
    go_wp2
    refine bodyPost_ret (v := .tuple #[.agg #[.bool false, .string ⟨#[]⟩, .int .i64 0], .int .i64 3]) (by simp [results, Tryz.results23, go_sem, *]) rfl ⟨rfl, ?_⟩
    exact set_three hv1 (by omega) _ _ _
  · have h2 : decOk m (bs t) y = false := by simpa [h1] using h
    go_enter Tryz.func23, Tryz.ntmps23
    go_wp2_with fail
    refine (isDec_any n s x _ hs hx).mono ?_
    rintro e w1 ⟨rfl, hb1⟩
    rw [h1]
    obtain ⟨w0, hw0, hz0, hb0, hc0, hr0⟩ := three_laid w n s x m t y
    rw [hw0] at hb1
    obtain ⟨hv1, hz1, hc1, hr1⟩ := three_kept hb1 hz0 hb0 hc0 hr0
    clear hw0 hz0 hb0 hc0 hr0 hb1
    go_wp2_with fail
    refine (isDec_any m t y _ ht hy).mono ?_
    rintro e w2 ⟨rfl, hb2⟩
    rw [h2]
    obtain ⟨hv2, hz2, hc2, hr2⟩ := three_kept hb2 hz1 hv1 hc1 hr1
    clear hz1 hv1 hc1 hr1 hb2
    go_wp2
    refine bodyPost_ret (v := .tuple #[.agg #[.bool false, .string ⟨#[]⟩, .int .i64 0], .int .i64 3]) (by simp [results, Tryz.results23, go_sem, *]) rfl ⟨rfl, ?_⟩
    exact set_three hv2 (by omega) _ _ _


set_option maxRecDepth 10000 in
set_option maxHeartbeats 1000000 in
theorem implDecMul_yes (n : Bool) (s : ByteArray) (x : Int) (m : Bool) (t : ByteArray) (y : Int) (w : World) (hs : s.size ≤ maxLen) (hx : (Lit.int .i64 x).wf = true) (ht : t.size ≤ maxLen) (hy : (Lit.int .i64 y).wf = true) (h1 : decOk n (bs s) x = true) (h2 : decOk m (bs t) y = true) :
    Calls Tryz.prog 23 #[.agg #[.bool n, .string s, .int .i64 x], .agg #[.bool m, .string t, .int .i64 y]] w fun e w' => e = .returned (mulV n s x m t y) ∧ Below w.heap.size w w' := by
  obtain ⟨n', u, y', c, hV, -, -, -⟩ := formV_lit (n != m) (val (bs s) * val (bs t)) (x + y)
  have hI := Lib.hid (fun w => by
    have := decMul_any n s x m t y w h1 h2
    rw [show mulV n s x m t y = _ from hV] at this
    exact this : ∀ w : World, Calls Tryz.prog 49 #[.agg #[.bool n, .string s, .int .i64 x], .agg #[.bool m, .string t, .int .i64 y]] w fun e w' => e = .returned (.tuple #[.agg #[.bool n', .string u, .int .i64 y'], .int .i64 c]) ∧ Below w.heap.size w w')
  rw [show mulV n s x m t y = _ from hV]
  clear hV
  have hn0 : ¬ (w.heap.size = w.heap.size + 1 + 1) := by omega
  have hn1 : ¬ (w.heap.size + 1 + 1 = w.heap.size) := by omega
  go_enter Tryz.func23, Tryz.ntmps23
  go_wp2_with fail
  refine (isDec_any n s x _ hs hx).mono ?_
  rintro e w1 ⟨rfl, hb1⟩
  rw [h1]
  obtain ⟨w0, hw0, hz0, hb0, hc0, hr0⟩ := three_laid w n s x m t y
  rw [hw0] at hb1
  obtain ⟨hv1, hz1, hc1, hr1⟩ := three_kept hb1 hz0 hb0 hc0 hr0
  clear hw0 hz0 hb0 hc0 hr0 hb1
  go_wp2_with fail
  refine (isDec_any m t y _ ht hy).mono ?_
  rintro e w2 ⟨rfl, hb2⟩
  rw [h2]
  obtain ⟨hv2, hz2, hc2, hr2⟩ := three_kept hb2 hz1 hv1 hc1 hr1
  clear hz1 hv1 hc1 hr1 hb2
  clear h1 h2
  go_wp2_with fail
  refine (hI.out _).mono ?_
  rintro e w3 ⟨rfl, hb3⟩
  obtain ⟨hv3, hz3, hc3, hr3⟩ := three_kept hb3 hz2 hv2 hc2 hr2
  clear hb3 hz2 hv2 hc2 hr2
  clear hI
  go_wp2
  refine bodyPost_ret (v := .tuple #[.agg #[.bool n', .string u, .int .i64 y'], .int .i64 c]) (by simp [results, Tryz.results23, go_sem, *]) rfl ?_
  exact ⟨rfl, set_three (by assumption) (by omega) _ _ _⟩


end Go.Proofs.YtjjpdoabagnmoaaGreatDoor
/-
  The walk of FnExactDecDiv, out of the contracts. Condition: numbers in form.
-/
namespace Go.Proofs.YtjjpdoabagnmoaaGreatDoor
open Go.RowKit
set_option linter.unusedVariables false
set_option linter.unusedSimpArgs false

theorem decDiv_all (n : Bool) (s : ByteArray) (x : Int) (m : Bool) (t : ByteArray) (y : Int) (w : World) (h1 : decOk n (bs s) x = true) (h2 : decOk m (bs t) y = true) :
    Calls Tryz.prog 53 #[.agg #[.bool n, .string s, .int .i64 x], .agg #[.bool m, .string t, .int .i64 y]] w fun e w' => e = .returned (divV n s x m t y) ∧ Below w.heap.size w w' := by
  by_cases h0 : t.size = 0
  · exact decDiv_zero n s x m t y w h1 h2 h0
  · exact decDiv_any n s x m t y w h1 h2 (by omega)


theorem implDecDiv_no (n : Bool) (s : ByteArray) (x : Int) (m : Bool) (t : ByteArray) (y : Int) (w : World) (hs : s.size ≤ maxLen) (hx : (Lit.int .i64 x).wf = true) (ht : t.size ≤ maxLen) (hy : (Lit.int .i64 y).wf = true) (h : decOk n (bs s) x = false ∨ decOk m (bs t) y = false) :
    Calls Tryz.prog 25 #[.agg #[.bool n, .string s, .int .i64 x], .agg #[.bool m, .string t, .int .i64 y]] w fun e w' => e = .returned (.tuple #[.agg #[.bool false, .string ⟨#[]⟩, .int .i64 0], .int .i64 3]) ∧ Below w.heap.size w w' := by
  have hn0 : ¬ (w.heap.size = w.heap.size + 1 + 1) := by omega
  have hn1 : ¬ (w.heap.size + 1 + 1 = w.heap.size) := by omega
  cases h1 : decOk n (bs s) x
  · go_enter Tryz.func25, Tryz.ntmps25
    go_wp2_with fail
    refine (isDec_any n s x _ hs hx).mono ?_
    rintro e w1 ⟨rfl, hb1⟩
    rw [h1]
    obtain ⟨w0, hw0, hz0, hb0, hc0, hr0⟩ := three_laid w n s x m t y
    rw [hw0] at hb1
    obtain ⟨hv1, hz1, hc1, hr1⟩ := three_kept hb1 hz0 hb0 hc0 hr0
    clear hw0 hz0 hb0 hc0 hr0 hb1
    go_wp2
    refine bodyPost_ret (v := .tuple #[.agg #[.bool false, .string ⟨#[]⟩, .int .i64 0], .int .i64 3]) (by simp [results, Tryz.results25, go_sem, *]) rfl ⟨rfl, ?_⟩
    exact set_three hv1 (by omega) _ _ _
  · have h2 : decOk m (bs t) y = false := by simpa [h1] using h
    go_enter Tryz.func25, Tryz.ntmps25
    go_wp2_with fail
    refine (isDec_any n s x _ hs hx).mono ?_
    rintro e w1 ⟨rfl, hb1⟩
    rw [h1]
    obtain ⟨w0, hw0, hz0, hb0, hc0, hr0⟩ := three_laid w n s x m t y
    rw [hw0] at hb1
    obtain ⟨hv1, hz1, hc1, hr1⟩ := three_kept hb1 hz0 hb0 hc0 hr0
    clear hw0 hz0 hb0 hc0 hr0 hb1
    go_wp2_with fail
    refine (isDec_any m t y _ ht hy).mono ?_
    rintro e w2 ⟨rfl, hb2⟩
    rw [h2]
    obtain ⟨hv2, hz2, hc2, hr2⟩ := three_kept hb2 hz1 hv1 hc1 hr1
    clear hz1 hv1 hc1 hr1 hb2
    go_wp2
    refine bodyPost_ret (v := .tuple #[.agg #[.bool false, .string ⟨#[]⟩, .int .i64 0], .int .i64 3]) (by simp [results, Tryz.results25, go_sem, *]) rfl ⟨rfl, ?_⟩
    exact set_three hv2 (by omega) _ _ _


set_option maxRecDepth 10000 in
set_option maxHeartbeats 1000000 in
theorem implDecDiv_yes (n : Bool) (s : ByteArray) (x : Int) (m : Bool) (t : ByteArray) (y : Int) (w : World) (hs : s.size ≤ maxLen) (hx : (Lit.int .i64 x).wf = true) (ht : t.size ≤ maxLen) (hy : (Lit.int .i64 y).wf = true) (h1 : decOk n (bs s) x = true) (h2 : decOk m (bs t) y = true) :
    Calls Tryz.prog 25 #[.agg #[.bool n, .string s, .int .i64 x], .agg #[.bool m, .string t, .int .i64 y]] w fun e w' => e = .returned (divV n s x m t y) ∧ Below w.heap.size w w' := by
  obtain ⟨n', u, y', c, hV⟩ := divV_lit n s x m t y
  have hI := Lib.hid (fun w => by
    have := decDiv_all n s x m t y w h1 h2
    rw [hV] at this
    exact this : ∀ w : World, Calls Tryz.prog 53 #[.agg #[.bool n, .string s, .int .i64 x], .agg #[.bool m, .string t, .int .i64 y]] w fun e w' => e = .returned (.tuple #[.agg #[.bool n', .string u, .int .i64 y'], .int .i64 c]) ∧ Below w.heap.size w w')
  rw [hV]
  clear hV
  have hn0 : ¬ (w.heap.size = w.heap.size + 1 + 1) := by omega
  have hn1 : ¬ (w.heap.size + 1 + 1 = w.heap.size) := by omega
  go_enter Tryz.func25, Tryz.ntmps25
  go_wp2_with fail
  refine (isDec_any n s x _ hs hx).mono ?_
  rintro e w1 ⟨rfl, hb1⟩
  rw [h1]
  obtain ⟨w0, hw0, hz0, hb0, hc0, hr0⟩ := three_laid w n s x m t y
  rw [hw0] at hb1
  obtain ⟨hv1, hz1, hc1, hr1⟩ := three_kept hb1 hz0 hb0 hc0 hr0
  clear hw0 hz0 hb0 hc0 hr0 hb1
  go_wp2_with fail
  refine (isDec_any m t y _ ht hy).mono ?_
  rintro e w2 ⟨rfl, hb2⟩
  rw [h2]
  obtain ⟨hv2, hz2, hc2, hr2⟩ := three_kept hb2 hz1 hv1 hc1 hr1
  clear hz1 hv1 hc1 hr1 hb2
  clear h1 h2
  go_wp2_with fail
  refine (hI.out _).mono ?_
  rintro e w3 ⟨rfl, hb3⟩
  obtain ⟨hv3, hz3, hc3, hr3⟩ := three_kept hb3 hz2 hv2 hc2 hr2
  clear hb3 hz2 hv2 hc2 hr2
  clear hI
  go_wp2
  refine bodyPost_ret (v := .tuple #[.agg #[.bool n', .string u, .int .i64 y'], .int .i64 c]) (by simp [results, Tryz.results25, go_sem, *]) rfl ?_
  exact ⟨rfl, set_three (by assumption) (by omega) _ _ _⟩

end Go.Proofs.YtjjpdoabagnmoaaGreatDoor
/-
  The walk of FnExactDecMod, out of the contracts. Condition: numbers in form.
-/
namespace Go.Proofs.YtjjpdoabagnmoaaGreatDoor
open Go.RowKit
set_option linter.unusedVariables false
set_option linter.unusedSimpArgs false

theorem decMod_all (n : Bool) (s : ByteArray) (x : Int) (m : Bool) (t : ByteArray) (y : Int) (w : World) (h1 : decOk n (bs s) x = true) (h2 : decOk m (bs t) y = true) :
    Calls Tryz.prog 54 #[.agg #[.bool n, .string s, .int .i64 x], .agg #[.bool m, .string t, .int .i64 y]] w fun e w' => e = .returned (modV n s x m t y) ∧ Below w.heap.size w w' := by
  by_cases h0 : t.size = 0
  · exact decMod_zero n s x m t y w h1 h2 h0
  · exact decMod_any n s x m t y w h1 h2 (by omega)


theorem implDecMod_no (n : Bool) (s : ByteArray) (x : Int) (m : Bool) (t : ByteArray) (y : Int) (w : World) (hs : s.size ≤ maxLen) (hx : (Lit.int .i64 x).wf = true) (ht : t.size ≤ maxLen) (hy : (Lit.int .i64 y).wf = true) (h : decOk n (bs s) x = false ∨ decOk m (bs t) y = false) :
    Calls Tryz.prog 26 #[.agg #[.bool n, .string s, .int .i64 x], .agg #[.bool m, .string t, .int .i64 y]] w fun e w' => e = .returned (.tuple #[.agg #[.bool false, .string ⟨#[]⟩, .int .i64 0], .int .i64 3]) ∧ Below w.heap.size w w' := by
  have hn0 : ¬ (w.heap.size = w.heap.size + 1 + 1) := by omega
  have hn1 : ¬ (w.heap.size + 1 + 1 = w.heap.size) := by omega
  cases h1 : decOk n (bs s) x
  · go_enter Tryz.func26, Tryz.ntmps26
    go_wp2_with fail
    refine (isDec_any n s x _ hs hx).mono ?_
    rintro e w1 ⟨rfl, hb1⟩
    rw [h1]
    obtain ⟨w0, hw0, hz0, hb0, hc0, hr0⟩ := three_laid w n s x m t y
    rw [hw0] at hb1
    obtain ⟨hv1, hz1, hc1, hr1⟩ := three_kept hb1 hz0 hb0 hc0 hr0
    clear hw0 hz0 hb0 hc0 hr0 hb1
    go_wp2
    refine bodyPost_ret (v := .tuple #[.agg #[.bool false, .string ⟨#[]⟩, .int .i64 0], .int .i64 3]) (by simp [results, Tryz.results26, go_sem, *]) rfl ⟨rfl, ?_⟩
    exact set_three hv1 (by omega) _ _ _
  · have h2 : decOk m (bs t) y = false := by simpa [h1] using h
    go_enter Tryz.func26, Tryz.ntmps26
    go_wp2_with fail
    refine (isDec_any n s x _ hs hx).mono ?_
    rintro e w1 ⟨rfl, hb1⟩
    rw [h1]
    obtain ⟨w0, hw0, hz0, hb0, hc0, hr0⟩ := three_laid w n s x m t y
    rw [hw0] at hb1
    obtain ⟨hv1, hz1, hc1, hr1⟩ := three_kept hb1 hz0 hb0 hc0 hr0
    clear hw0 hz0 hb0 hc0 hr0 hb1
    go_wp2_with fail
    refine (isDec_any m t y _ ht hy).mono ?_
    rintro e w2 ⟨rfl, hb2⟩
    rw [h2]
    obtain ⟨hv2, hz2, hc2, hr2⟩ := three_kept hb2 hz1 hv1 hc1 hr1
    clear hz1 hv1 hc1 hr1 hb2
    go_wp2
    refine bodyPost_ret (v := .tuple #[.agg #[.bool false, .string ⟨#[]⟩, .int .i64 0], .int .i64 3]) (by simp [results, Tryz.results26, go_sem, *]) rfl ⟨rfl, ?_⟩
    exact set_three hv2 (by omega) _ _ _


set_option maxRecDepth 10000 in
set_option maxHeartbeats 1000000 in
theorem implDecMod_yes (n : Bool) (s : ByteArray) (x : Int) (m : Bool) (t : ByteArray) (y : Int) (w : World) (hs : s.size ≤ maxLen) (hx : (Lit.int .i64 x).wf = true) (ht : t.size ≤ maxLen) (hy : (Lit.int .i64 y).wf = true) (h1 : decOk n (bs s) x = true) (h2 : decOk m (bs t) y = true) :
    Calls Tryz.prog 26 #[.agg #[.bool n, .string s, .int .i64 x], .agg #[.bool m, .string t, .int .i64 y]] w fun e w' => e = .returned (modV n s x m t y) ∧ Below w.heap.size w w' := by
  obtain ⟨n', u, y', c, hV⟩ := modV_lit n s x m t y
  have hI := Lib.hid (fun w => by
    have := decMod_all n s x m t y w h1 h2
    rw [hV] at this
    exact this : ∀ w : World, Calls Tryz.prog 54 #[.agg #[.bool n, .string s, .int .i64 x], .agg #[.bool m, .string t, .int .i64 y]] w fun e w' => e = .returned (.tuple #[.agg #[.bool n', .string u, .int .i64 y'], .int .i64 c]) ∧ Below w.heap.size w w')
  rw [hV]
  clear hV
  have hn0 : ¬ (w.heap.size = w.heap.size + 1 + 1) := by omega
  have hn1 : ¬ (w.heap.size + 1 + 1 = w.heap.size) := by omega
  go_enter Tryz.func26, Tryz.ntmps26
  go_wp2_with fail
  refine (isDec_any n s x _ hs hx).mono ?_
  rintro e w1 ⟨rfl, hb1⟩
  rw [h1]
  obtain ⟨w0, hw0, hz0, hb0, hc0, hr0⟩ := three_laid w n s x m t y
  rw [hw0] at hb1
  obtain ⟨hv1, hz1, hc1, hr1⟩ := three_kept hb1 hz0 hb0 hc0 hr0
  clear hw0 hz0 hb0 hc0 hr0 hb1
  go_wp2_with fail
  refine (isDec_any m t y _ ht hy).mono ?_
  rintro e w2 ⟨rfl, hb2⟩
  rw [h2]
  obtain ⟨hv2, hz2, hc2, hr2⟩ := three_kept hb2 hz1 hv1 hc1 hr1
  clear hz1 hv1 hc1 hr1 hb2
  clear h1 h2
  go_wp2_with fail
  refine (hI.out _).mono ?_
  rintro e w3 ⟨rfl, hb3⟩
  obtain ⟨hv3, hz3, hc3, hr3⟩ := three_kept hb3 hz2 hv2 hc2 hr2
  clear hb3 hz2 hv2 hc2 hr2
  clear hI
  go_wp2
  refine bodyPost_ret (v := .tuple #[.agg #[.bool n', .string u, .int .i64 y'], .int .i64 c]) (by simp [results, Tryz.results26, go_sem, *]) rfl ?_
  exact ⟨rfl, set_three (by assumption) (by omega) _ _ _⟩

end Go.Proofs.YtjjpdoabagnmoaaGreatDoor

/-
  The laws' helpers on automata: szNfa, toNfaOp, toNfaOpS, toNfa, eqNfa. Conditions: bounds.
-/
import Derived.Test.YtobpecgecopdnaaDoorOpsL
namespace Go.Proofs.YtobpecgecopdnaaDoor
open Go.RowKit
set_option linter.unusedVariables false
set_option linter.unusedSimpArgs false

theorem szNfa_any (a : Option Addr) (cap n : Nat) (Q : List OpQ) (w : World) (h : OpR w a Q) (hn : Q.length = n) (hm : n ≤ 9223372036854775807) (hq : ∀ q ∈ Q, q.sl ≤ 9223372036854775807) :
    Calls Tryd.prog 8 #[.agg #[.slice a n cap], .int .i64 1048576] w fun e w' => ∃ v : Int, e = .returned (.int .i64 v) ∧ (0 ≤ v → n ≤ 1048576 ∧ ∀ q ∈ Q, q.sl ≤ 1048576) ∧ Op64 v ∧ Below w.heap.size w w' := by
  have HA := Lib.hid (fun W (hb : Below w.heap.size w W) => szNfaOpS_any a cap n Q W (h.below hb) hn hm hq)
  clear h hq hn
  go_enter Tryd.func8, Tryd.ntmps8
  go_wp2_with fail
  refine (HA.out _ ((Below.refl _ _).alloc (Nat.le_refl _) _)).mono ?_
  rintro e w1 ⟨v, rfl, hv, hv2, hb⟩
  have HV := Lib.hid hv
  have HV2 := Lib.hid hv2
  have HB := Lib.hid (((Below.refl w.heap.size w).alloc (Nat.le_refl _) _).trans (hb.mono (by simp)))
  obtain ⟨hv3, hv4⟩ := hv2
  clear hv hb
  by_cases hneg : v < 0
  · go_wp2
    go_ret
    exact ⟨-1, rfl, fun h => absurd h (by omega), by unfold Op64; omega, HB.out⟩
  · go_wp2
    go_ret
    exact ⟨v, rfl, HV.out, HV2.out, HB.out⟩
theorem eqNfa_same (a a' : Option Addr) (cap cap' n : Nat) (Q Q' : List OpQ) (w : World) (h : OpR w a Q) (h' : OpR w a' Q') (hn : Q.length = n) (hs : valsOf Q = valsOf Q') (hl : n ≤ 1099511627776) (hql : ∀ q ∈ Q, q.sl ≤ 1048576) :
    Calls Tryd.prog 12 #[.agg #[.slice a n cap], .agg #[.slice a' n cap']] w fun e w' => e = .returned (.bool true) ∧ Below w.heap.size w w' := by
  have HA := Lib.hid (fun W (hb : Below w.heap.size w W) => eqNfaOpS_same a a' cap cap' n Q Q' W (h.below hb) (h'.below hb) hn hs hl hql)
  clear h h' hs hql hn
  go_enter Tryd.func12, Tryd.ntmps12
  go_wp2_with fail
  refine (HA.out _ (((Below.refl _ _).alloc (Nat.le_refl _) _).alloc (by simp) _)).mono ?_
  rintro e w1 ⟨rfl, hb⟩
  have HB := Lib.hid ((((Below.refl w.heap.size w).alloc (Nat.le_refl _) _).alloc (by simp) _).trans (hb.mono (by simp; omega)))
  clear hb
  go_wp2
  go_ret
  exact ⟨rfl, HB.out⟩

/-- five cells written, one behind another -/
abbrev set5 (w : World) (g m : Nat) (v0 v1 v2 v3 v4 : Value) : World :=
  ((((w.setCell ⟨g, m, none⟩ v0).setCell ⟨g, m + 1, none⟩ v1).setCell ⟨g, m + 2, none⟩ v2).setCell ⟨g, m + 3, none⟩ v3).setCell ⟨g, m + 4, none⟩ v4
theorem set5_other (w : World) (g m : Nat) (v0 v1 v2 v3 v4 : Value) {b o : Nat} (h : b ≠ g ∨ o < m ∨ m + 5 ≤ o) : (set5 w g m v0 v1 v2 v3 v4).cell? ⟨b, o, none⟩ = w.cell? ⟨b, o, none⟩ := by
  unfold set5
  rw [World.cell?_setCell_other _ _ _ _ (by rintro ⟨⟩; omega), World.cell?_setCell_other _ _ _ _ (by rintro ⟨⟩; omega), World.cell?_setCell_other _ _ _ _ (by rintro ⟨⟩; omega), World.cell?_setCell_other _ _ _ _ (by rintro ⟨⟩; omega), World.cell?_setCell_other _ _ _ _ (by rintro ⟨⟩; omega)]
theorem set5_frozen (w : World) (g m : Nat) (v0 v1 v2 v3 v4 : Value) (p : Addr) : (set5 w g m v0 v1 v2 v3 v4).frozen? p = w.frozen? p := by
  unfold set5
  rw [World.frozen?_setCell, World.frozen?_setCell, World.frozen?_setCell, World.frozen?_setCell, World.frozen?_setCell]
theorem set5_below {B : Nat} {w0 w : World} (hb : Below B w0 w) (g m : Nat) (v0 v1 v2 v3 v4 : Value) (hg : B ≤ g) : Below B w0 (set5 w g m v0 v1 v2 v3 v4) :=
  ((((hb.setCell hg v0).setCell hg v1).setCell hg v2).setCell hg v3).setCell hg v4
theorem set5_size (w : World) (g m : Nat) (v0 v1 v2 v3 v4 : Value) : (set5 w g m v0 v1 v2 v3 v4).heap.size = w.heap.size := by simp [set5, World.setCell]
theorem set5_get (w : World) (g m : Nat) (v0 v1 v2 v3 v4 : Value) (h0 : (w.cell? ⟨g, m, none⟩).isSome = true) (h1 : (w.cell? ⟨g, m + 1, none⟩).isSome = true) (h2 : (w.cell? ⟨g, m + 2, none⟩).isSome = true) (h3 : (w.cell? ⟨g, m + 3, none⟩).isSome = true) (h4 : (w.cell? ⟨g, m + 4, none⟩).isSome = true) :
    (set5 w g m v0 v1 v2 v3 v4).cell? ⟨g, m, none⟩ = some v0 ∧ (set5 w g m v0 v1 v2 v3 v4).cell? ⟨g, m + 1, none⟩ = some v1 ∧ (set5 w g m v0 v1 v2 v3 v4).cell? ⟨g, m + 2, none⟩ = some v2 ∧ (set5 w g m v0 v1 v2 v3 v4).cell? ⟨g, m + 3, none⟩ = some v3 ∧ (set5 w g m v0 v1 v2 v3 v4).cell? ⟨g, m + 4, none⟩ = some v4 := by
  have o (u : World) (i j : Nat) (v : Value) (h : i ≠ j) : (u.setCell ⟨g, i, none⟩ v).cell? ⟨g, j, none⟩ = u.cell? ⟨g, j, none⟩ := World.cell?_setCell_other _ _ _ _ (by rintro ⟨⟩; omega)
  unfold set5
  refine ⟨?_, ?_, ?_, ?_, ?_⟩
  · rw [o _ _ _ _ (by omega), o _ _ _ _ (by omega), o _ _ _ _ (by omega), o _ _ _ _ (by omega), World.cell?_setCell_same' _ _ _ h0]
  · rw [o _ _ _ _ (by omega), o _ _ _ _ (by omega), o _ _ _ _ (by omega), World.cell?_setCell_same' _ _ _ (by rw [o _ _ _ _ (by omega)]; exact h1)]
  · rw [o _ _ _ _ (by omega), o _ _ _ _ (by omega), World.cell?_setCell_same' _ _ _ (by rw [o _ _ _ _ (by omega), o _ _ _ _ (by omega)]; exact h2)]
  · rw [o _ _ _ _ (by omega), World.cell?_setCell_same' _ _ _ (by rw [o _ _ _ _ (by omega), o _ _ _ _ (by omega), o _ _ _ _ (by omega)]; exact h3)]
  · rw [World.cell?_setCell_same' _ _ _ (by rw [o _ _ _ _ (by omega), o _ _ _ _ (by omega), o _ _ _ _ (by omega), o _ _ _ _ (by omega)]; exact h4)]

/-- a row g of n operations of the call's own that is being filled -/
structure OpFill (w wr : World) (g n : Nat) (f : Nat → OpQ) : Prop where
  below : Below w.heap.size w wr
  lo : w.heap.size ≤ g
  hi : g < wr.heap.size
  cell : ∀ i, i < n → OpCells wr g (i * 5) (f i)
  free : ∀ j, j < n * 5 → wr.frozen? ⟨g, j, none⟩ = false
theorem OpFill.call {w wr w2 : World} {g n : Nat} {f : Nat → OpQ} (h : OpFill w wr g n f) (hb : Below wr.heap.size wr w2) : OpFill w w2 g n f :=
  ⟨h.below.trans (hb.mono h.below.size), h.lo, Nat.lt_of_lt_of_le h.hi hb.size, fun j hj => (h.cell j hj).below hb h.hi, fun j hj => by rw [hb.frozen (p := ⟨g, j, none⟩) h.hi]; exact h.free j hj⟩
theorem OpFill.congr {w wr : World} {g n : Nat} {f f' : Nat → OpQ} (h : OpFill w wr g n f) (hf : ∀ j, j < n → f j = f' j) : OpFill w wr g n f' :=
  ⟨h.below, h.lo, h.hi, fun j hj => by rw [← hf j hj]; exact h.cell j hj, h.free⟩
theorem OpFill.store {w wr : World} {g n : Nat} {f : Nat → OpQ} (h : OpFill w wr g n f) {k : Nat} (hk : k < n) (q : OpQ) :
    OpFill w (set5 wr g (k * 5) (.int .i64 q.op) (.int .i64 q.a) (.int .i64 q.b) (.bool q.neg) (.slice q.sa q.sl q.sc)) g n (fun i => if i = k then q else f i) := by
  refine ⟨set5_below h.below _ _ _ _ _ _ _ h.lo, h.lo, by rw [set5_size]; exact h.hi, fun i hi => ?_, fun j hj => by rw [set5_frozen]; exact h.free j hj⟩
  by_cases e : i = k
  · subst e
    obtain ⟨c0, c1, c2, c3, c4⟩ := h.cell i hi
    simp only [if_true]
    exact set5_get _ _ _ _ _ _ _ _ (by rw [c0]; rfl) (by rw [c1]; rfl) (by rw [c2]; rfl) (by rw [c3]; rfl) (by rw [c4]; rfl)
  · simp only [if_neg e]
    obtain ⟨c0, c1, c2, c3, c4⟩ := h.cell i hi
    refine ⟨?_, ?_, ?_, ?_, ?_⟩
    all_goals (rw [set5_other (h := by omega)]; assumption)

theorem laid5 (u : World) (v0 v1 v2 v3 v4 : Value) (t : TypeId) : ∃ w0, u.alloc (.cells #[v0, v1, v2, v3, v4] t) = w0 ∧ w0.heap.size = u.heap.size + 1 ∧ Below u.heap.size u w0 ∧
    (w0.cell? ⟨u.heap.size, 0, none⟩ = some v0 ∧ w0.cell? ⟨u.heap.size, 1, none⟩ = some v1 ∧ w0.cell? ⟨u.heap.size, 2, none⟩ = some v2 ∧ w0.cell? ⟨u.heap.size, 3, none⟩ = some v3 ∧ w0.cell? ⟨u.heap.size, 4, none⟩ = some v4) ∧ ∀ j, w0.frozen? ⟨u.heap.size, j, none⟩ = false :=
  ⟨_, rfl, by simp, (Below.refl _ _).alloc (Nat.le_refl _) _, by simp, by intro j; simp⟩
/-- the world at the entry of toNfaOp: what came in, the result, the variable -/
theorem ops_laid (w : World) (q : OpQ) (t1 t2 : TypeId) : ∃ u, ((w.alloc (.cells #[.int .i64 q.op, .int .i64 q.a, .int .i64 q.b, .bool q.neg, .slice q.sa q.sl q.sc] t1)).alloc (.cells #[.int .i64 0, .int .i64 0, .int .i64 0, .bool false, .slice none 0 0] t2)).alloc (.cells #[.int .i64 0, .int .i64 0, .int .i64 0, .bool false, .slice none 0 0] t2) = u ∧ u.heap.size = w.heap.size + 1 + 1 + 1 ∧ Below w.heap.size w u ∧ OpCells u w.heap.size 0 q ∧
    (OpCells u (w.heap.size + 1) 0 ⟨0, 0, 0, false, none, 0, 0, []⟩ ∧ ∀ j, u.frozen? ⟨w.heap.size + 1, j, none⟩ = false) ∧ (OpCells u (w.heap.size + 1 + 1) 0 ⟨0, 0, 0, false, none, 0, 0, []⟩ ∧ ∀ j, u.frozen? ⟨w.heap.size + 1 + 1, j, none⟩ = false) := by
  obtain ⟨u1, h1, s1, b1, c1, _⟩ := laid5 w (.int .i64 q.op) (.int .i64 q.a) (.int .i64 q.b) (.bool q.neg) (.slice q.sa q.sl q.sc) t1
  obtain ⟨u2, h2, s2, b2, c2, f2⟩ := laid5 u1 (.int .i64 0) (.int .i64 0) (.int .i64 0) (.bool false) (.slice none 0 0) t2
  obtain ⟨u3, h3, s3, b3, c3, f3⟩ := laid5 u2 (.int .i64 0) (.int .i64 0) (.int .i64 0) (.bool false) (.slice none 0 0) t2
  rw [s1] at c2 f2 s2
  rw [s2] at c3 f3 s3
  refine ⟨u3, by rw [h1, h2, h3], s3, (b1.trans (b2.mono b1.size)).trans (b3.mono (Nat.le_trans b1.size b2.size)), ?_, ⟨?_, fun j => ?_⟩, ?_, f3⟩
  · exact (OpCells.below (w := u1) (q := q) c1 b2 (by omega)).below b3 (by omega)
  · exact OpCells.below (w := u2) (q := ⟨0, 0, 0, false, none, 0, 0, []⟩) c2 b3 (by omega)
  · rw [b3.frozen (p := ⟨w.heap.size + 1, j, none⟩) (by show w.heap.size + 1 < _; omega)]; exact f2 j
  · exact c3
theorem out_set (u : World) (g : Nat) (v0 v1 v2 v3 v4 v5 : Value) (B : Nat) (hg : B ≤ g) (h0 : (u.cell? ⟨g, 0, none⟩).isSome = true) (h1 : (u.cell? ⟨g, 0 + 1, none⟩).isSome = true) (h2 : (u.cell? ⟨g, 0 + 2, none⟩).isSome = true) (h3 : (u.cell? ⟨g, 0 + 3, none⟩).isSome = true) (h4 : u.cell? ⟨g, 0 + 4, none⟩ = some v4) (w : World) (hb : Below B w u) :
    ∃ u4, (((u.setCell ⟨g, 0, none⟩ v0).setCell ⟨g, 1, none⟩ v1).setCell ⟨g, 2, none⟩ v2).setCell ⟨g, 3, none⟩ v3 = u4 ∧ u4.heap.size = u.heap.size ∧ Below B w u4 ∧
      (u4.cell? ⟨g, 0, none⟩ = some v0 ∧ u4.cell? ⟨g, 1, none⟩ = some v1 ∧ u4.cell? ⟨g, 2, none⟩ = some v2 ∧ u4.cell? ⟨g, 3, none⟩ = some v3 ∧ u4.cell? ⟨g, 4, none⟩ = some v4) ∧ (∀ b o, b ≠ g → u4.cell? ⟨b, o, none⟩ = u.cell? ⟨b, o, none⟩) ∧ ∀ p, u4.frozen? p = u.frozen? p := by
  have o (u : World) (i j : Nat) (v : Value) (h : i ≠ j) : (u.setCell ⟨g, i, none⟩ v).cell? ⟨g, j, none⟩ = u.cell? ⟨g, j, none⟩ := World.cell?_setCell_other _ _ _ _ (by rintro ⟨⟩; omega)
  have o2 (u : World) (i j b : Nat) (v : Value) (h : b ≠ g) : (u.setCell ⟨g, i, none⟩ v).cell? ⟨b, j, none⟩ = u.cell? ⟨b, j, none⟩ := World.cell?_setCell_other _ _ _ _ (by rintro ⟨⟩; omega)
  refine ⟨_, rfl, by simp [World.setCell], (((hb.setCell hg v0).setCell hg v1).setCell hg v2).setCell hg v3, ⟨?_, ?_, ?_, ?_, ?_⟩, fun b j hbg => by rw [o2 _ _ _ _ _ hbg, o2 _ _ _ _ _ hbg, o2 _ _ _ _ _ hbg, o2 _ _ _ _ _ hbg], fun p => by rw [World.frozen?_setCell, World.frozen?_setCell, World.frozen?_setCell, World.frozen?_setCell]⟩
  · rw [o _ _ _ _ (by omega), o _ _ _ _ (by omega), o _ _ _ _ (by omega), World.cell?_setCell_same' _ _ _ h0]
  · rw [o _ _ _ _ (by omega), o _ _ _ _ (by omega), World.cell?_setCell_same' _ _ _ (by rw [o _ _ _ _ (by omega)]; exact h1)]
  · rw [o _ _ _ _ (by omega), World.cell?_setCell_same' _ _ _ (by rw [o _ _ _ _ (by omega), o _ _ _ _ (by omega)]; exact h2)]
  · rw [World.cell?_setCell_same' _ _ _ (by rw [o _ _ _ _ (by omega), o _ _ _ _ (by omega), o _ _ _ _ (by omega)]; exact h3)]
  · rw [o _ _ _ _ (by omega), o _ _ _ _ (by omega), o _ _ _ _ (by omega), o _ _ _ _ (by omega)]; exact h4
theorem RowI.setOther {k : IntKind} {w : World} {g : Nat} {l : List Int} (h : RowI k w (some ⟨g, 0, none⟩) l) {b o : Nat} (hb : b ≠ g) (v : Value) : RowI k (w.setCell ⟨b, o, none⟩ v) (some ⟨g, 0, none⟩) l := by
  rcases h with h | ⟨b', off, e, hlt, hc⟩
  · exact .inl h
  · obtain ⟨rfl, rfl⟩ : g = b' ∧ 0 = off := by simpa using e
    exact .inr ⟨g, 0, rfl, by simpa [World.setCell] using hlt, fun i hi => by rw [World.cell?_setCell_other _ _ _ _ (by rintro ⟨⟩; omega)]; exact hc i hi⟩
theorem RowI.set5 {k : IntKind} {w : World} {g : Nat} {l : List Int} (h : RowI k w (some ⟨g, 0, none⟩) l) {b m : Nat} (hb : b ≠ g) (v0 v1 v2 v3 v4 : Value) : RowI k (set5 w b m v0 v1 v2 v3 v4) (some ⟨g, 0, none⟩) l :=
  ((((h.setOther hb v0).setOther hb v1).setOther hb v2).setOther hb v3).setOther hb v4
theorem toNfaOp_any (q : OpQ) (w : World) (h : OpFine w q) (hl : q.sl ≤ 1048576) :
    Calls Tryd.prog 46 #[q.agg] w fun e w' => ∃ g, e = .returned (.agg #[.int .i64 q.op, .int .i64 q.a, .int .i64 q.b, .bool q.neg, .slice (some ⟨g, 0, none⟩) q.sl q.sl]) ∧ w.heap.size ≤ g ∧ RowI .i64 w' (some ⟨g, 0, none⟩) q.set ∧ Below w.heap.size w w' := by
  obtain ⟨op, a, b, neg, sa, sl, sc, set⟩ := q
  obtain ⟨h1, h2, -⟩ := h
  simp only [] at h1 h2 hl
  subst h2
  have HA := Lib.hid (fun W (hb : Below w.heap.size w W) => toIntS_any sa sc set W (h1.below hb) (by omega))
  clear h1
  obtain ⟨u, hu, hsz, hbu, ⟨c0, c1, c2, c3, c4⟩, ⟨⟨e0, e1, e2, e3, e4⟩, hf1⟩, ⟨g0, g1, g2, g3, g4⟩, hf2⟩ := ops_laid w ⟨op, a, b, neg, sa, set.length, sc, set⟩ 74 76
  simp only [] at c0 c1 c2 c3 c4 e0 e1 e2 e3 e4 g0 g1 g2 g3 g4 hu
  go_enter Tryd.func46, Tryd.ntmps46
  go_wp2_with fail
  obtain ⟨u4, hu4, s4, hb4, ⟨k0, k1, k2, k3, k4⟩, hoth, hfro⟩ := out_set u (w.heap.size + 1 + 1) (.int .i64 op) (.int .i64 a) (.int .i64 b) (.bool neg) (.slice none 0 0) (.slice none 0 0) w.heap.size (by omega) (by rw [g0]; rfl) (by rw [g1]; rfl) (by rw [g2]; rfl) (by rw [g3]; rfl) g4 w hbu
  rw [hu4]
  refine (HA.out _ hb4).mono ?_
  rintro e w1 ⟨g, rfl, hg, hr, hb⟩
  obtain ⟨bc, bf⟩ := bcell hb
  have hlt : w.heap.size + 1 + 1 < u4.heap.size := by omega
  have hlt1 : w.heap.size + 1 < u4.heap.size := by omega
  have m1 := hoth (w.heap.size + 1)
  rw [← hoth _ _ (by omega), ← bc _ _ hlt1] at e0 e1 e2 e3 e4
  rw [← bc _ _ hlt] at k0 k1 k2 k3 k4
  have hf1' : ∀ j, w1.frozen? ⟨w.heap.size + 1, j, none⟩ = false := fun j => by rw [bf _ _ hlt1, hfro, hf1]
  have hf2' : ∀ j, w1.frozen? ⟨w.heap.size + 1 + 1, j, none⟩ = false := fun j => by rw [bf _ _ hlt, hfro, hf2]
  have HS := Lib.hid hb.size
  have HG := Lib.hid (show w.heap.size + 1 + 1 + 1 ≤ g by omega)
  have HGW := Lib.hid (show g < w1.heap.size ∨ set = [] from by
    rcases hr with h | ⟨b', off, h1, h2, h3⟩
    · exact .inr h
    · obtain ⟨rfl, rfl⟩ : g = b' ∧ 0 = off := by simpa using h1
      exact .inl h2)
  have HR := Lib.hid hr
  have HB := Lib.hid (hb4.trans (hb.mono (by omega)))
  clear hr hb hoth hfro hf1 hf2 hu4 hb4 hbu c0 c1 c2 c3 c4 g0 g1 g2 g3 g4 bc bf hg hu HA hlt hlt1 s4 hsz m1
  simp only [Nat.zero_add] at e0 e1 e2 e3 e4
  go_wp2
  refine bodyPost_ret (v := .agg #[.int .i64 op, .int .i64 a, .int .i64 b, .bool neg, .slice (some ⟨g, 0, none⟩) set.length set.length]) (by simp [results, Tryd.results46, go_sem, *]) rfl ?_
  have hg := HG.out
  exact ⟨g, rfl, by omega, (HR.out.setOther (by omega) _).set5 (by omega) _ _ _ _ _, set5_below (HB.out.setCell (by show w.heap.size ≤ w.heap.size + 1 + 1; omega) _) _ _ _ _ _ _ _ (by omega)⟩

theorem infoOp : (Tryd.prog.info? 76).map (fun i => (i.zero, i.size, i.bytes)) = some (some (.agg #[.int .i64 0, .int .i64 0, .int .i64 0, .bool false, .slice none 0 0]), 5, 56) := by kernel_rfl
theorem makeOps (n : Nat) (hn : n ≤ 1048576) (u : World) : (Instr.makeSlice 30 (.int .i64 (n : Int)) (.int .i64 (n : Int))).run Tryd.prog u =
      .ok (.slice (some ⟨u.heap.size, 0, none⟩) n n) (u.alloc (.cells (madeCells #[.int .i64 0, .int .i64 0, .int .i64 0, .bool false, .slice none 0 0] (n * 5)) 76)) := by
  obtain ⟨i0, hi, hz0, hz1, hz2⟩ := info_parts infoOp
  have h := run_make (P := Tryd.prog) u 30 76 i0 (.agg #[.int .i64 0, .int .i64 0, .int .i64 0, .bool false, .slice none 0 0]) Tryd.underlying30 hi hz0 .i64 .i64 (n : Int) (n : Int) (by omega) (Int.le_refl _) (by rw [hz2]; omega) (by omega)
  simpa [hz1, Value.cells] using h
theorem madeOps_get (v0 v1 v2 v3 v4 : Value) (n i : Nat) (hi : i < n) : (madeCells #[v0, v1, v2, v3, v4] (n * 5))[i * 5]? = some v0 ∧ (madeCells #[v0, v1, v2, v3, v4] (n * 5))[i * 5 + 1]? = some v1 ∧ (madeCells #[v0, v1, v2, v3, v4] (n * 5))[i * 5 + 2]? = some v2 ∧ (madeCells #[v0, v1, v2, v3, v4] (n * 5))[i * 5 + 3]? = some v3 ∧ (madeCells #[v0, v1, v2, v3, v4] (n * 5))[i * 5 + 4]? = some v4 := by
  have e0 : i * 5 % 5 = 0 := by omega
  have e1 : (i * 5 + 1) % 5 = 1 := by omega
  have e2 : (i * 5 + 2) % 5 = 2 := by omega
  have e3 : (i * 5 + 3) % 5 = 3 := by omega
  have e4 : (i * 5 + 4) % 5 = 4 := by omega
  refine ⟨?_, ?_, ?_, ?_, ?_⟩
  · have h : i * 5 < n * 5 := by omega
    simp [madeCells, h, e0]
  · have h : i * 5 + 1 < n * 5 := by omega
    simp [madeCells, h, e1]
  · have h : i * 5 + 2 < n * 5 := by omega
    simp [madeCells, h, e2]
  · have h : i * 5 + 3 < n * 5 := by omega
    simp [madeCells, h, e3]
  · have h : i * 5 + 4 < n * 5 := by omega
    simp [madeCells, h, e4]
def zeroOp : OpQ := ⟨0, 0, 0, false, none, 0, 0, []⟩
theorem OpFill.made (w : World) (n : Nat) (T : TypeId) : OpFill w (w.alloc (.cells (madeCells #[.int .i64 0, .int .i64 0, .int .i64 0, .bool false, .slice none 0 0] (n * 5)) T)) w.heap.size n (fun _ => zeroOp) := by
  refine ⟨(Below.refl _ _).alloc (Nat.le_refl _) _, Nat.le_refl _, by simp, fun i hi => ?_, fun j hj => by simp⟩
  obtain ⟨h0, h1, h2, h3, h4⟩ := madeOps_get (.int .i64 0) (.int .i64 0) (.int .i64 0) (.bool false) (.slice none 0 0) n i hi
  unfold OpCells zeroOp
  refine ⟨?_, ?_, ?_, ?_, ?_⟩
  · rw [← h0]; simp
  · rw [← h1]; simp
  · rw [← h2]; simp
  · rw [← h3]; simp
  · rw [← h4]; simp
def OpOwn (w : World) (B : Nat) (q : OpQ) : Prop := ∃ s, q.sa = some ⟨s, 0, none⟩ ∧ B ≤ s ∧ OpFine w q
/-- what toNfaOpS leaves: a new row of operations that say the same, each with a new set -/
def MadeOps (w : World) (Q : List OpQ) (v : Value) (w' : World) : Prop :=
  ∃ (g : Nat) (Q' : List OpQ), v = .slice (some ⟨g, 0, none⟩) Q.length Q.length ∧ w.heap.size ≤ g ∧ OpR w' (some ⟨g, 0, none⟩) Q' ∧ (∀ q ∈ Q', OpOwn w' w.heap.size q) ∧ valsOf Q' = valsOf Q ∧ Below w.heap.size w w'
theorem OpOwn.fine {w : World} {B : Nat} {q : OpQ} (h : OpOwn w B q) : OpFine w q := by
  obtain ⟨s, e1, e2, e3⟩ := h
  exact e3
theorem OpOwn.mono {w : World} {B B' : Nat} {q : OpQ} (h : OpOwn w B q) (hB : B' ≤ B) : OpOwn w B' q := by
  obtain ⟨s, e1, e2, e3⟩ := h
  exact ⟨s, e1, Nat.le_trans hB e2, e3⟩
theorem OpOwn.below {w w' : World} {B : Nat} {q : OpQ} (h : OpOwn w B q) (hb : Below w.heap.size w w') : OpOwn w' B q := by
  obtain ⟨s, e1, e2, e3⟩ := h
  exact ⟨s, e1, e2, e3.below hb⟩
theorem OpOwn.set5 {w : World} {B : Nat} {q : OpQ} (h : OpOwn w B q) {g m : Nat} (hg : g < B) (v0 v1 v2 v3 v4 : Value) : OpOwn (set5 w g m v0 v1 v2 v3 v4) B q := by
  obtain ⟨s, e1, e2, e3⟩ := h
  refine ⟨s, e1, e2, ?_, e3.2⟩
  have h3 := e3.1
  rw [e1] at h3 ⊢
  exact h3.set5 (by omega) _ _ _ _ _
set_option maxHeartbeats 1000000 in
theorem toNfaOpS_any (a : Option Addr) (cap : Nat) (Q : List OpQ) (w : World) (h : OpR w a Q) (hl : Q.length ≤ 1048576) (hql : ∀ q ∈ Q, q.sl ≤ 1048576) :
    Calls Tryd.prog 26 #[.slice a Q.length cap] w fun e w' => ∃ v, e = .returned v ∧ MadeOps w Q v w' := by
  have hmk := makeOps Q.length hl
  have HF := Lib.hid (OpFill.made w Q.length 76)
  have HR := Lib.hid h
  have HL := Lib.hid hql
  clear h hql
  go_enter Tryd.func26, Tryd.ntmps26
  go_wp2
  go_loopw [4] (fun i wr => ∃ (k : Nat) (Q' : List OpQ), k ≤ Q.length ∧ i = .int .i64 k ∧ Q'.length = k ∧ valsOf Q' = valsOf (Q.take k) ∧ (∀ q ∈ Q', OpOwn wr (w.heap.size + 1) q) ∧ OpFill w wr w.heap.size Q.length (fun j => Q'.getD j zeroOp)) (fun i _ => Q.length - (intOf i).toNat)
  case atStart => exact ⟨0, [], Nat.zero_le _, rfl, rfl, rfl, fun q hq => by simp at hq, HF.out⟩
  case round =>
    obtain ⟨k, Q', hk, rfl, hQk, hss, hrows, hfill⟩ := hrel
    have HI := Lib.hid hfill
    have HSS := Lib.hid hss
    have HRW := Lib.hid hrows
    have HQK := Lib.hid hQk
    clear hfill hss hrows hQk hmk
    by_cases hlt : k < Q.length
    · have hR : OpR wr a Q := HR.out.below HI.out.below
      obtain ⟨hr1, hr2⟩ := hR
      rcases hr1 with h0 | ⟨b, off, rfl, hbl, hc⟩
      · rw [h0] at hlt; exact absurd hlt (Nat.not_lt_zero _)
      have hc0 := hc k hlt
      have hqk := hr2 _ (List.getElem_mem hlt)
      have hlk := HL.out _ (List.getElem_mem hlt)
      have htk : Q.take (k + 1) = Q.take k ++ [Q[k]] := List.take_succ_eq_append_getElem hlt
      generalize Q[k] = q at *
      obtain ⟨d0, d1, d2, d3, d4⟩ := hc0
      have HTK := Lib.hid htk
      have HQ := Lib.hid (toNfaOp_any q wr hqk hlk)
      have HFN := Lib.hid hqk.2
      clear hc htk hqk hr2
      go_wp2_with fail
      refine HQ.out.mono ?_
      rintro e w2 ⟨g2, rfl, hg2, hrb, hb2⟩
      have HI2 := Lib.hid (HI.out.call hb2)
      have HRW2 := Lib.hid (fun q hq => (HRW.out q hq).below hb2)
      have HRB := Lib.hid (show OpOwn w2 (w.heap.size + 1) ⟨q.op, q.a, q.b, q.neg, some ⟨g2, 0, none⟩, q.sl, q.sl, q.set⟩ from ⟨g2, rfl, Nat.le_trans HI.out.hi hg2, hrb, HFN.out.1, Nat.le_refl _, HFN.out.2.2⟩)
      have hs0 := HI2.out.cell k hlt
      have hf := HI2.out.free
      have hgd : Q'.getD k zeroOp = zeroOp := by
        rw [List.getD_eq_getElem?_getD, List.getElem?_eq_none (by rw [HQK.out]; exact Nat.le_refl _)]
        rfl
      rw [hgd] at hs0
      obtain ⟨s0, s1, s2, s3, s4⟩ := hs0
      unfold zeroOp at s0 s1 s2 s3 s4
      have f0 := hf (k * 5) (by omega)
      have f1 := hf (k * 5 + 1) (by omega)
      have f2 := hf (k * 5 + 2) (by omega)
      have f3 := hf (k * 5 + 3) (by omega)
      have f4 := hf (k * 5 + 4) (by omega)
      clear hgd hb2 hrb hf
      go_wp2
      go_light
      refine ⟨⟨k + 1, Q' ++ [⟨q.op, q.a, q.b, q.neg, some ⟨g2, 0, none⟩, q.sl, q.sl, q.set⟩], by omega, by go_num, by rw [List.length_append, HQK.out]; rfl, ?_, fun t ht => ?_, ?_⟩, by simp [intOf]; omega⟩
      · unfold valsOf at *
        rw [HTK.out, List.map_append, List.map_append, HSS.out]
        rfl
      · rw [List.mem_append] at ht
        rcases ht with ht | ht
        · exact (HRW2.out t ht).set5 (by omega) _ _ _ _ _
        · simp at ht
          subst ht
          exact HRB.out.set5 (by omega) _ _ _ _ _
      · refine (HI2.out.store hlt ⟨q.op, q.a, q.b, q.neg, some ⟨g2, 0, none⟩, q.sl, q.sl, q.set⟩).congr ?_
        intro j hj
        rw [List.getD_eq_getElem?_getD, List.getD_eq_getElem?_getD]
        by_cases e : j = k
        · subst e
          rw [if_pos rfl, List.getElem?_append_right (by rw [HQK.out]; exact Nat.le_refl _), HQK.out, Nat.sub_self]
          rfl
        · rw [if_neg e]
          by_cases e1 : j < k
          · rw [List.getElem?_append_left (by rw [HQK.out]; exact e1)]
          · rw [List.getElem?_eq_none (by rw [HQK.out]; omega), List.getElem?_eq_none (by rw [List.length_append, HQK.out]; simp; omega)]
    · obtain rfl : k = Q.length := by omega
      go_wp2
      go_ret
      refine ⟨_, rfl, w.heap.size, Q', rfl, Nat.le_refl _, ⟨?_, fun q hq => (HRW.out q hq).fine⟩, fun q hq => (HRW.out q hq).mono (by omega), ?_, HI.out.below⟩
      · right
        refine ⟨w.heap.size, 0, rfl, HI.out.hi, fun i hi => ?_⟩
        have := HI.out.cell i (by rw [← HQK.out]; exact hi)
        rw [List.getD_eq_getElem?_getD, List.getElem?_eq_getElem hi] at this
        rw [Nat.zero_add]
        exact this
      · rw [HSS.out, List.take_of_length_le (Nat.le_refl _)]
theorem laid_one1 (u : World) (v : Value) (t : TypeId) : ∃ w0, u.alloc (.cells #[v] t) = w0 ∧ w0.heap.size = u.heap.size + 1 ∧ Below u.heap.size u w0 ∧ w0.cell? ⟨u.heap.size, 0, none⟩ = some v ∧ w0.frozen? ⟨u.heap.size, 0, none⟩ = false :=
  ⟨_, rfl, by simp, (Below.refl _ _).alloc (Nat.le_refl _) _, by simp, by simp⟩
theorem nfa_laid (w : World) (v x y : Value) (t1 t2 : TypeId) : ∃ u, ((w.alloc (.cells #[v] t1)).alloc (.cells #[x] t2)).alloc (.cells #[y] t2) = u ∧ u.heap.size = w.heap.size + 1 + 1 + 1 ∧ Below w.heap.size w u ∧ u.cell? ⟨w.heap.size, 0, none⟩ = some v ∧
    (u.cell? ⟨w.heap.size + 1, 0, none⟩ = some x ∧ u.frozen? ⟨w.heap.size + 1, 0, none⟩ = false) ∧ (u.cell? ⟨w.heap.size + 1 + 1, 0, none⟩ = some y ∧ u.frozen? ⟨w.heap.size + 1 + 1, 0, none⟩ = false) := by
  obtain ⟨u1, h1, s1, b1, c1, _⟩ := laid_one1 w v t1
  obtain ⟨u2, h2, s2, b2, c2, f2⟩ := laid_one1 u1 x t2
  obtain ⟨u3, h3, s3, b3, c3, f3⟩ := laid_one1 u2 y t2
  rw [s1] at c2 f2 s2
  rw [s2] at c3 f3 s3
  refine ⟨u3, by rw [h1, h2, h3], s3, (b1.trans (b2.mono b1.size)).trans (b3.mono (Nat.le_trans b1.size b2.size)), ?_, ⟨?_, ?_⟩, c3, f3⟩
  · rw [b3.cell (p := ⟨w.heap.size, 0, none⟩) (by show w.heap.size < _; omega), b2.cell (p := ⟨w.heap.size, 0, none⟩) (by show w.heap.size < _; omega)]; exact c1
  · rw [b3.cell (p := ⟨w.heap.size + 1, 0, none⟩) (by show w.heap.size + 1 < _; omega)]; exact c2
  · rw [b3.frozen (p := ⟨w.heap.size + 1, 0, none⟩) (by show w.heap.size + 1 < _; omega)]; exact f2
theorem OpR.setOther {w : World} {a : Addr} {Q : List OpQ} {B : Nat} (h : OpR w (some a) Q) (ha : B ≤ a.block) (hs : ∀ q ∈ Q, OpOwn w B q) {b o : Nat} (hb : b < B) (v : Value) : OpR (w.setCell ⟨b, o, none⟩ v) (some a) Q ∧ ∀ q ∈ Q, OpOwn (w.setCell ⟨b, o, none⟩ v) B q := by
  have ho : ∀ q ∈ Q, OpOwn (w.setCell ⟨b, o, none⟩ v) B q := fun q hq => by
    obtain ⟨s, e1, e2, e3⟩ := hs q hq
    refine ⟨s, e1, e2, ?_, e3.2⟩
    have h3 := e3.1
    rw [e1] at h3 ⊢
    exact h3.setOther (by omega) _
  refine ⟨⟨?_, fun q hq => (ho q hq).fine⟩, ho⟩
  rcases h.1 with h | ⟨b', off, e, hlt, hc⟩
  · exact .inl h
  · obtain rfl : a = ⟨b', off, none⟩ := by simpa using e
    simp only [] at ha
    refine .inr ⟨b', off, rfl, by simpa [World.setCell] using hlt, fun i hi => ?_⟩
    obtain ⟨c0, c1, c2, c3, c4⟩ := hc i hi
    refine ⟨?_, ?_, ?_, ?_, ?_⟩
    all_goals (rw [World.cell?_setCell_other _ _ _ _ (by rintro ⟨⟩; omega)]; assumption)
theorem toNfa_any (a : Option Addr) (cap : Nat) (Q : List OpQ) (w : World) (h : OpR w a Q) (hl : Q.length ≤ 1048576) (hql : ∀ q ∈ Q, q.sl ≤ 1048576) :
    Calls Tryd.prog 10 #[.agg #[.slice a Q.length cap]] w fun e w' => ∃ (g : Nat) (Q' : List OpQ), e = .returned (.agg #[.slice (some ⟨g, 0, none⟩) Q.length Q.length]) ∧ OpR w' (some ⟨g, 0, none⟩) Q' ∧ valsOf Q' = valsOf Q ∧ Below w.heap.size w w' := by
  have HA := Lib.hid (fun W (hb : Below w.heap.size w W) => toNfaOpS_any a cap Q W (h.below hb) hl hql)
  clear h hql
  obtain ⟨u, hu, hsz, hbu, hc0, ⟨hc1, hf1⟩, hc2, hf2⟩ := nfa_laid w (.slice a Q.length cap) (.slice none 0 0) (.slice none 0 0) 26 32
  go_enter Tryd.func10, Tryd.ntmps10
  go_wp2_with fail
  refine (HA.out _ hbu).mono ?_
  rintro e w1 ⟨v, rfl, g, Q', rfl, hg, hr, hown, hv, hb⟩
  rw [← hb.cell (p := ⟨w.heap.size + 1, 0, none⟩) (by show w.heap.size + 1 < _; omega)] at hc1
  rw [← hb.cell (p := ⟨w.heap.size + 1 + 1, 0, none⟩) (by show w.heap.size + 1 + 1 < _; omega)] at hc2
  rw [← hb.frozen (p := ⟨w.heap.size + 1, 0, none⟩) (by show w.heap.size + 1 < _; omega)] at hf1
  rw [← hb.frozen (p := ⟨w.heap.size + 1 + 1, 0, none⟩) (by show w.heap.size + 1 + 1 < _; omega)] at hf2
  have HG := Lib.hid (show w.heap.size + 3 ≤ g by omega)
  have HR := Lib.hid hr
  have HV := Lib.hid hv
  have HO := Lib.hid (fun q hq => (hown q hq).mono (show w.heap.size + 3 ≤ u.heap.size by omega))
  have HBB := Lib.hid (hbu.trans (hb.mono (by omega)))
  clear hr hb hown hg hbu hu hsz HA hv
  go_wp2
  refine bodyPost_ret (v := .agg #[.slice (some ⟨g, 0, none⟩) Q.length Q.length]) (by simp [results, Tryd.results10, go_sem, *]) rfl ?_
  obtain ⟨h1, h2⟩ := HR.out.setOther HG.out HO.out (b := w.heap.size + 1 + 1) (o := 0) (by omega) (.slice (some ⟨g, 0, none⟩) Q.length Q.length)
  obtain ⟨h3, h4⟩ := h1.setOther HG.out h2 (b := w.heap.size + 1) (o := 0) (by omega) (.slice (some ⟨g, 0, none⟩) Q.length Q.length)
  exact ⟨g, Q', rfl, h3, HV.out, (HBB.out.setCell (by show w.heap.size ≤ w.heap.size + 1 + 1; omega) _).setCell (by show w.heap.size ≤ w.heap.size + 1; omega) _⟩
end Go.Proofs.YtobpecgecopdnaaDoor

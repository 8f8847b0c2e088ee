/-
  The laws' helpers on patterns: szRx, toRxNode, toRxNodeS, toRx, eqRx. Conditions: bounds.
-/
import Derived.Test.YtpolpihgclemnaaDoorNodesL
namespace Go.Proofs.YtpolpihgclemnaaDoor
open Go.RowKit
set_option linter.unusedVariables false
set_option linter.unusedSimpArgs false

theorem szRx_any (a : Option Addr) (cap n : Nat) (Q : List NdQ) (w : World) (h : NdR w a Q) (hn : Q.length = n) (hm : n ≤ 9223372036854775807) (hq : ∀ q ∈ Q, q.sl ≤ 9223372036854775807 ∧ q.kl ≤ 9223372036854775807) :
    Calls Tryd.prog 4 #[.agg #[.slice a n cap], .int .i64 1048576] w fun e w' => ∃ v : Int, e = .returned (.int .i64 v) ∧ (0 ≤ v → n ≤ 1048576 ∧ ∀ q ∈ Q, q.sl ≤ 1048576 ∧ q.kl ≤ 1048576) ∧ Nd64 v ∧ Below w.heap.size w w' := by
  have HA := Lib.hid (fun W (hb : Below w.heap.size w W) => szRxNodeS_any a cap n Q W (h.below hb) hn hm hq)
  clear h hq hn
  go_enter Tryd.func4, Tryd.ntmps4
  go_wp2_with fail
  refine (HA.out _ ((Below.refl _ _).alloc (Nat.le_refl _) _)).mono ?_
  rintro e w1 ⟨v, rfl, hv, hv2, hb⟩
  have HV := Lib.hid hv
  have HV2 := Lib.hid hv2
  have HB := Lib.hid (((Below.refl w.heap.size w).alloc (Nat.le_refl _) _).trans (hb.mono (by simp)))
  obtain ⟨hv3, hv4⟩ := hv2
  clear hv hb
  by_cases hneg : v < 0
  · go_wp2
    go_ret
    exact ⟨-1, rfl, fun h => absurd h (by omega), by unfold Nd64; omega, HB.out⟩
  · go_wp2
    go_ret
    exact ⟨v, rfl, HV.out, HV2.out, HB.out⟩
theorem eqRx_same (a a' : Option Addr) (cap cap' n : Nat) (Q Q' : List NdQ) (w : World) (h : NdR w a Q) (h' : NdR w a' Q') (hn : Q.length = n) (hs : ndsOf Q = ndsOf Q') (hl : n ≤ 1099511627776) (hql : ∀ q ∈ Q, q.sl ≤ 1048576 ∧ q.kl ≤ 1048576) :
    Calls Tryd.prog 8 #[.agg #[.slice a n cap], .agg #[.slice a' n cap']] w fun e w' => e = .returned (.bool true) ∧ Below w.heap.size w w' := by
  have HA := Lib.hid (fun W (hb : Below w.heap.size w W) => eqRxNodeS_same a a' cap cap' n Q Q' W (h.below hb) (h'.below hb) hn hs hl hql)
  clear h h' hs hql hn
  go_enter Tryd.func8, Tryd.ntmps8
  go_wp2_with fail
  refine (HA.out _ (((Below.refl _ _).alloc (Nat.le_refl _) _).alloc (by simp) _)).mono ?_
  rintro e w1 ⟨rfl, hb⟩
  have HB := Lib.hid ((((Below.refl w.heap.size w).alloc (Nat.le_refl _) _).alloc (by simp) _).trans (hb.mono (by simp; omega)))
  clear hb
  go_wp2
  go_ret
  exact ⟨rfl, HB.out⟩

/-- six cells written, one behind another -/
abbrev set6 (w : World) (g m : Nat) (v0 v1 v2 v3 v4 v5 : Value) : World :=
  (((((w.setCell ⟨g, m, none⟩ v0).setCell ⟨g, m + 1, none⟩ v1).setCell ⟨g, m + 2, none⟩ v2).setCell ⟨g, m + 3, none⟩ v3).setCell ⟨g, m + 4, none⟩ v4).setCell ⟨g, m + 5, none⟩ v5
theorem set6_other (w : World) (g m : Nat) (v0 v1 v2 v3 v4 v5 : Value) {b o : Nat} (h : b ≠ g ∨ o < m ∨ m + 6 ≤ o) : (set6 w g m v0 v1 v2 v3 v4 v5).cell? ⟨b, o, none⟩ = w.cell? ⟨b, o, none⟩ := by
  unfold set6
  rw [World.cell?_setCell_other _ _ _ _ (by rintro ⟨⟩; omega), World.cell?_setCell_other _ _ _ _ (by rintro ⟨⟩; omega), World.cell?_setCell_other _ _ _ _ (by rintro ⟨⟩; omega), World.cell?_setCell_other _ _ _ _ (by rintro ⟨⟩; omega), World.cell?_setCell_other _ _ _ _ (by rintro ⟨⟩; omega), World.cell?_setCell_other _ _ _ _ (by rintro ⟨⟩; omega)]
theorem set6_frozen (w : World) (g m : Nat) (v0 v1 v2 v3 v4 v5 : Value) (p : Addr) : (set6 w g m v0 v1 v2 v3 v4 v5).frozen? p = w.frozen? p := by
  unfold set6
  rw [World.frozen?_setCell, World.frozen?_setCell, World.frozen?_setCell, World.frozen?_setCell, World.frozen?_setCell, World.frozen?_setCell]
theorem set6_below {B : Nat} {w0 w : World} (hb : Below B w0 w) (g m : Nat) (v0 v1 v2 v3 v4 v5 : Value) (hg : B ≤ g) : Below B w0 (set6 w g m v0 v1 v2 v3 v4 v5) :=
  (((((hb.setCell hg v0).setCell hg v1).setCell hg v2).setCell hg v3).setCell hg v4).setCell hg v5
theorem set6_size (w : World) (g m : Nat) (v0 v1 v2 v3 v4 v5 : Value) : (set6 w g m v0 v1 v2 v3 v4 v5).heap.size = w.heap.size := by simp [set6, World.setCell]
theorem set6_get (w : World) (g m : Nat) (v0 v1 v2 v3 v4 v5 : Value) (h0 : (w.cell? ⟨g, m, none⟩).isSome = true) (h1 : (w.cell? ⟨g, m + 1, none⟩).isSome = true) (h2 : (w.cell? ⟨g, m + 2, none⟩).isSome = true) (h3 : (w.cell? ⟨g, m + 3, none⟩).isSome = true) (h4 : (w.cell? ⟨g, m + 4, none⟩).isSome = true) (h5 : (w.cell? ⟨g, m + 5, none⟩).isSome = true) :
    (set6 w g m v0 v1 v2 v3 v4 v5).cell? ⟨g, m, none⟩ = some v0 ∧ (set6 w g m v0 v1 v2 v3 v4 v5).cell? ⟨g, m + 1, none⟩ = some v1 ∧ (set6 w g m v0 v1 v2 v3 v4 v5).cell? ⟨g, m + 2, none⟩ = some v2 ∧ (set6 w g m v0 v1 v2 v3 v4 v5).cell? ⟨g, m + 3, none⟩ = some v3 ∧ (set6 w g m v0 v1 v2 v3 v4 v5).cell? ⟨g, m + 4, none⟩ = some v4 ∧ (set6 w g m v0 v1 v2 v3 v4 v5).cell? ⟨g, m + 5, none⟩ = some v5 := by
  have o (u : World) (i j : Nat) (v : Value) (h : i ≠ j) : (u.setCell ⟨g, i, none⟩ v).cell? ⟨g, j, none⟩ = u.cell? ⟨g, j, none⟩ := World.cell?_setCell_other _ _ _ _ (by rintro ⟨⟩; omega)
  unfold set6
  refine ⟨?_, ?_, ?_, ?_, ?_, ?_⟩
  · rw [o _ _ _ _ (by omega), o _ _ _ _ (by omega), o _ _ _ _ (by omega), o _ _ _ _ (by omega), o _ _ _ _ (by omega), World.cell?_setCell_same' _ _ _ h0]
  · rw [o _ _ _ _ (by omega), o _ _ _ _ (by omega), o _ _ _ _ (by omega), o _ _ _ _ (by omega), World.cell?_setCell_same' _ _ _ (by rw [o _ _ _ _ (by omega)]; exact h1)]
  · rw [o _ _ _ _ (by omega), o _ _ _ _ (by omega), o _ _ _ _ (by omega), World.cell?_setCell_same' _ _ _ (by rw [o _ _ _ _ (by omega), o _ _ _ _ (by omega)]; exact h2)]
  · rw [o _ _ _ _ (by omega), o _ _ _ _ (by omega), World.cell?_setCell_same' _ _ _ (by rw [o _ _ _ _ (by omega), o _ _ _ _ (by omega), o _ _ _ _ (by omega)]; exact h3)]
  · rw [o _ _ _ _ (by omega), World.cell?_setCell_same' _ _ _ (by rw [o _ _ _ _ (by omega), o _ _ _ _ (by omega), o _ _ _ _ (by omega), o _ _ _ _ (by omega)]; exact h4)]
  · rw [World.cell?_setCell_same' _ _ _ (by rw [o _ _ _ _ (by omega), o _ _ _ _ (by omega), o _ _ _ _ (by omega), o _ _ _ _ (by omega), o _ _ _ _ (by omega)]; exact h5)]

/-- a row g of n nodes of the call's own that is being filled -/
structure NdFill (w wr : World) (g n : Nat) (f : Nat → NdQ) : Prop where
  below : Below w.heap.size w wr
  lo : w.heap.size ≤ g
  hi : g < wr.heap.size
  cell : ∀ i, i < n → NdCells wr g (i * 6) (f i)
  free : ∀ j, j < n * 6 → wr.frozen? ⟨g, j, none⟩ = false
theorem NdFill.call {w wr w2 : World} {g n : Nat} {f : Nat → NdQ} (h : NdFill w wr g n f) (hb : Below wr.heap.size wr w2) : NdFill w w2 g n f :=
  ⟨h.below.trans (hb.mono h.below.size), h.lo, Nat.lt_of_lt_of_le h.hi hb.size, fun j hj => (h.cell j hj).below hb h.hi, fun j hj => by rw [hb.frozen (p := ⟨g, j, none⟩) h.hi]; exact h.free j hj⟩
theorem NdFill.congr {w wr : World} {g n : Nat} {f f' : Nat → NdQ} (h : NdFill w wr g n f) (hf : ∀ j, j < n → f j = f' j) : NdFill w wr g n f' :=
  ⟨h.below, h.lo, h.hi, fun j hj => by rw [← hf j hj]; exact h.cell j hj, h.free⟩
theorem NdFill.store {w wr : World} {g n : Nat} {f : Nat → NdQ} (h : NdFill w wr g n f) {k : Nat} (hk : k < n) (q : NdQ) :
    NdFill w (set6 wr g (k * 6) (.int .i64 q.op) (.int .i64 q.a) (.int .i64 q.b) (.bool q.neg) (.slice q.sa q.sl q.sc) (.slice q.ka q.kl q.kc)) g n (fun i => if i = k then q else f i) := by
  refine ⟨set6_below h.below _ _ _ _ _ _ _ _ h.lo, h.lo, by rw [set6_size]; exact h.hi, fun i hi => ?_, fun j hj => by rw [set6_frozen]; exact h.free j hj⟩
  by_cases e : i = k
  · subst e
    obtain ⟨c0, c1, c2, c3, c4, c5⟩ := h.cell i hi
    simp only [if_true]
    exact set6_get _ _ _ _ _ _ _ _ _ (by rw [c0]; rfl) (by rw [c1]; rfl) (by rw [c2]; rfl) (by rw [c3]; rfl) (by rw [c4]; rfl) (by rw [c5]; rfl)
  · simp only [if_neg e]
    obtain ⟨c0, c1, c2, c3, c4, c5⟩ := h.cell i hi
    refine ⟨?_, ?_, ?_, ?_, ?_, ?_⟩
    all_goals (rw [set6_other (h := by omega)]; assumption)

theorem laid6 (u : World) (v0 v1 v2 v3 v4 v5 : Value) (t : TypeId) : ∃ w0, u.alloc (.cells #[v0, v1, v2, v3, v4, v5] t) = w0 ∧ w0.heap.size = u.heap.size + 1 ∧ Below u.heap.size u w0 ∧
    (w0.cell? ⟨u.heap.size, 0, none⟩ = some v0 ∧ w0.cell? ⟨u.heap.size, 1, none⟩ = some v1 ∧ w0.cell? ⟨u.heap.size, 2, none⟩ = some v2 ∧ w0.cell? ⟨u.heap.size, 3, none⟩ = some v3 ∧ w0.cell? ⟨u.heap.size, 4, none⟩ = some v4 ∧ w0.cell? ⟨u.heap.size, 5, none⟩ = some v5) ∧ ∀ j, w0.frozen? ⟨u.heap.size, j, none⟩ = false :=
  ⟨_, rfl, by simp, (Below.refl _ _).alloc (Nat.le_refl _) _, by simp, by intro j; simp⟩
/-- the world at the entry of toRxNode: what came in, the result, the variable -/
theorem nds_laid (w : World) (q : NdQ) (t1 t2 : TypeId) : ∃ u, ((w.alloc (.cells #[.int .i64 q.op, .int .i64 q.a, .int .i64 q.b, .bool q.neg, .slice q.sa q.sl q.sc, .slice q.ka q.kl q.kc] t1)).alloc (.cells #[.int .i64 0, .int .i64 0, .int .i64 0, .bool false, .slice none 0 0, .slice none 0 0] t2)).alloc (.cells #[.int .i64 0, .int .i64 0, .int .i64 0, .bool false, .slice none 0 0, .slice none 0 0] t2) = u ∧ u.heap.size = w.heap.size + 1 + 1 + 1 ∧ Below w.heap.size w u ∧ NdCells u w.heap.size 0 q ∧
    (NdCells u (w.heap.size + 1) 0 ⟨0, 0, 0, false, none, 0, 0, [], none, 0, 0, []⟩ ∧ ∀ j, u.frozen? ⟨w.heap.size + 1, j, none⟩ = false) ∧ (NdCells u (w.heap.size + 1 + 1) 0 ⟨0, 0, 0, false, none, 0, 0, [], none, 0, 0, []⟩ ∧ ∀ j, u.frozen? ⟨w.heap.size + 1 + 1, j, none⟩ = false) := by
  obtain ⟨u1, h1, s1, b1, c1, _⟩ := laid6 w (.int .i64 q.op) (.int .i64 q.a) (.int .i64 q.b) (.bool q.neg) (.slice q.sa q.sl q.sc) (.slice q.ka q.kl q.kc) t1
  obtain ⟨u2, h2, s2, b2, c2, f2⟩ := laid6 u1 (.int .i64 0) (.int .i64 0) (.int .i64 0) (.bool false) (.slice none 0 0) (.slice none 0 0) t2
  obtain ⟨u3, h3, s3, b3, c3, f3⟩ := laid6 u2 (.int .i64 0) (.int .i64 0) (.int .i64 0) (.bool false) (.slice none 0 0) (.slice none 0 0) t2
  rw [s1] at c2 f2 s2
  rw [s2] at c3 f3 s3
  refine ⟨u3, by rw [h1, h2, h3], s3, (b1.trans (b2.mono b1.size)).trans (b3.mono (Nat.le_trans b1.size b2.size)), ?_, ⟨?_, fun j => ?_⟩, ?_, f3⟩
  · exact (NdCells.below (w := u1) (q := q) c1 b2 (by omega)).below b3 (by omega)
  · exact NdCells.below (w := u2) (q := ⟨0, 0, 0, false, none, 0, 0, [], none, 0, 0, []⟩) c2 b3 (by omega)
  · rw [b3.frozen (p := ⟨w.heap.size + 1, j, none⟩) (by show w.heap.size + 1 < _; omega)]; exact f2 j
  · exact c3
theorem RowI.setOther6 {k : IntKind} {w : World} {g : Nat} {l : List Int} (h : RowI k w (some ⟨g, 0, none⟩) l) {b o : Nat} (hb : b ≠ g) (v : Value) : RowI k (w.setCell ⟨b, o, none⟩ v) (some ⟨g, 0, none⟩) l := by
  rcases h with h | ⟨b', off, e, hlt, hc⟩
  · exact .inl h
  · obtain ⟨rfl, rfl⟩ : g = b' ∧ 0 = off := by simpa using e
    exact .inr ⟨g, 0, rfl, by simpa [World.setCell] using hlt, fun i hi => by rw [World.cell?_setCell_other _ _ _ _ (by rintro ⟨⟩; omega)]; exact hc i hi⟩
theorem RowI.set6 {k : IntKind} {w : World} {g : Nat} {l : List Int} (h : RowI k w (some ⟨g, 0, none⟩) l) {b m : Nat} (hb : b ≠ g) (v0 v1 v2 v3 v4 v5 : Value) : RowI k (set6 w b m v0 v1 v2 v3 v4 v5) (some ⟨g, 0, none⟩) l :=
  (((((h.setOther6 hb v0).setOther6 hb v1).setOther6 hb v2).setOther6 hb v3).setOther6 hb v4).setOther6 hb v5
theorem out_set6 (u : World) (g : Nat) (v0 v1 v2 v3 v4 v5 : Value) (B : Nat) (hg : B ≤ g) (h0 : (u.cell? ⟨g, 0, none⟩).isSome = true) (h1 : (u.cell? ⟨g, 0 + 1, none⟩).isSome = true) (h2 : (u.cell? ⟨g, 0 + 2, none⟩).isSome = true) (h3 : (u.cell? ⟨g, 0 + 3, none⟩).isSome = true) (h4 : u.cell? ⟨g, 0 + 4, none⟩ = some v4) (h5 : u.cell? ⟨g, 0 + 5, none⟩ = some v5) (w : World) (hb : Below B w u) :
    ∃ u4, (((u.setCell ⟨g, 0, none⟩ v0).setCell ⟨g, 1, none⟩ v1).setCell ⟨g, 2, none⟩ v2).setCell ⟨g, 3, none⟩ v3 = u4 ∧ u4.heap.size = u.heap.size ∧ Below B w u4 ∧
      (u4.cell? ⟨g, 0, none⟩ = some v0 ∧ u4.cell? ⟨g, 1, none⟩ = some v1 ∧ u4.cell? ⟨g, 2, none⟩ = some v2 ∧ u4.cell? ⟨g, 3, none⟩ = some v3 ∧ u4.cell? ⟨g, 4, none⟩ = some v4 ∧ u4.cell? ⟨g, 5, none⟩ = some v5) ∧ (∀ b o, b ≠ g → u4.cell? ⟨b, o, none⟩ = u.cell? ⟨b, o, none⟩) ∧ ∀ p, u4.frozen? p = u.frozen? p := by
  have o (u : World) (i j : Nat) (v : Value) (h : i ≠ j) : (u.setCell ⟨g, i, none⟩ v).cell? ⟨g, j, none⟩ = u.cell? ⟨g, j, none⟩ := World.cell?_setCell_other _ _ _ _ (by rintro ⟨⟩; omega)
  have o2 (u : World) (i j b : Nat) (v : Value) (h : b ≠ g) : (u.setCell ⟨g, i, none⟩ v).cell? ⟨b, j, none⟩ = u.cell? ⟨b, j, none⟩ := World.cell?_setCell_other _ _ _ _ (by rintro ⟨⟩; omega)
  refine ⟨_, rfl, by simp [World.setCell], (((hb.setCell hg v0).setCell hg v1).setCell hg v2).setCell hg v3, ⟨?_, ?_, ?_, ?_, ?_, ?_⟩, fun b j hbg => by rw [o2 _ _ _ _ _ hbg, o2 _ _ _ _ _ hbg, o2 _ _ _ _ _ hbg, o2 _ _ _ _ _ hbg], fun p => by rw [World.frozen?_setCell, World.frozen?_setCell, World.frozen?_setCell, World.frozen?_setCell]⟩
  · rw [o _ _ _ _ (by omega), o _ _ _ _ (by omega), o _ _ _ _ (by omega), World.cell?_setCell_same' _ _ _ h0]
  · rw [o _ _ _ _ (by omega), o _ _ _ _ (by omega), World.cell?_setCell_same' _ _ _ (by rw [o _ _ _ _ (by omega)]; exact h1)]
  · rw [o _ _ _ _ (by omega), World.cell?_setCell_same' _ _ _ (by rw [o _ _ _ _ (by omega), o _ _ _ _ (by omega)]; exact h2)]
  · rw [World.cell?_setCell_same' _ _ _ (by rw [o _ _ _ _ (by omega), o _ _ _ _ (by omega), o _ _ _ _ (by omega)]; exact h3)]
  · rw [o _ _ _ _ (by omega), o _ _ _ _ (by omega), o _ _ _ _ (by omega), o _ _ _ _ (by omega)]; exact h4
  · rw [o _ _ _ _ (by omega), o _ _ _ _ (by omega), o _ _ _ _ (by omega), o _ _ _ _ (by omega)]; exact h5
/-- one cell is written: the world after it, by a name -/
theorem put_one (u : World) (g i : Nat) (v : Value) (hi : (u.cell? ⟨g, i, none⟩).isSome = true) : ∃ u', u.setCell ⟨g, i, none⟩ v = u' ∧ u'.heap.size = u.heap.size ∧ u'.cell? ⟨g, i, none⟩ = some v ∧ (∀ b o, b ≠ g ∨ o ≠ i → u'.cell? ⟨b, o, none⟩ = u.cell? ⟨b, o, none⟩) ∧ (∀ p, u'.frozen? p = u.frozen? p) ∧ ∀ (B : Nat) (w : World), Below B w u → B ≤ g → Below B w u' :=
  ⟨_, rfl, by simp [World.setCell], World.cell?_setCell_same' _ _ _ hi, fun b o h => World.cell?_setCell_other _ _ _ _ (by rintro ⟨⟩; omega), fun p => by rw [World.frozen?_setCell], fun B w hb hg => hb.setCell hg v⟩
theorem RowI.lt_or {k : IntKind} {w : World} {g : Nat} {l : List Int} (h : RowI k w (some ⟨g, 0, none⟩) l) : g < w.heap.size ∨ l = [] := by
  rcases h with h | ⟨b', off, h1, h2, h3⟩
  · exact .inr h
  · obtain ⟨rfl, rfl⟩ : g = b' ∧ 0 = off := by simpa using h1
    exact .inl h2
set_option maxHeartbeats 1000000 in
theorem toRxNode_any (q : NdQ) (w : World) (h : NdFine w q) (hl : q.sl ≤ 1048576 ∧ q.kl ≤ 1048576) :
    Calls Tryd.prog 21 #[q.agg] w fun e w' => ∃ g k, e = .returned (.agg #[.int .i64 q.op, .int .i64 q.a, .int .i64 q.b, .bool q.neg, .slice (some ⟨g, 0, none⟩) q.sl q.sl, .slice (some ⟨k, 0, none⟩) q.kl q.kl]) ∧ (w.heap.size ≤ g ∧ w.heap.size ≤ k) ∧ RowI .i64 w' (some ⟨g, 0, none⟩) q.set ∧ RowI .i64 w' (some ⟨k, 0, none⟩) q.kids ∧ Below w.heap.size w w' := by
  obtain ⟨op, a, b, neg, sa, sl, sc, set, ka, kl, kc, kids⟩ := q
  obtain ⟨⟨h1, g1⟩, ⟨h2, g2⟩, -⟩ := h
  obtain ⟨hl1, hl2⟩ := hl
  simp only [] at h1 h2 g1 g2 hl1 hl2
  subst h2
  subst g2
  have HA := Lib.hid (fun W (hb : Below w.heap.size w W) => toIntS_any sa sc set W (h1.below hb) (by omega))
  have HK := Lib.hid (fun W (hb : Below w.heap.size w W) => toIntS_any ka kc kids W (g1.below hb) (by omega))
  clear h1 g1
  obtain ⟨u, hu, hsz, hbu, ⟨c0, c1, c2, c3, c4, c5⟩, ⟨⟨e0, e1, e2, e3, e4, e5⟩, hf1⟩, ⟨g0, g1, g2, g3, g4, g5⟩, hf2⟩ := nds_laid w ⟨op, a, b, neg, sa, set.length, sc, set, ka, kids.length, kc, kids⟩ 47 38
  simp only [] at c0 c1 c2 c3 c4 c5 e0 e1 e2 e3 e4 e5 g0 g1 g2 g3 g4 g5 hu
  go_enter Tryd.func21, Tryd.ntmps21
  go_wp2_with fail
  obtain ⟨u4, hu4, s4, hb4, ⟨k0, k1, k2, k3, k4, k5⟩, hoth, hfro⟩ := out_set6 u (w.heap.size + 1 + 1) (.int .i64 op) (.int .i64 a) (.int .i64 b) (.bool neg) (.slice none 0 0) (.slice none 0 0) w.heap.size (by omega) (by rw [g0]; rfl) (by rw [g1]; rfl) (by rw [g2]; rfl) (by rw [g3]; rfl) g4 g5 w hbu
  rw [hu4]
  refine (HA.out _ hb4).mono ?_
  rintro e w1 ⟨g, rfl, hg, hr, hb⟩
  obtain ⟨bc, bf⟩ := bcell hb
  have hlt : w.heap.size + 1 + 1 < u4.heap.size := by omega
  have hlt1 : w.heap.size + 1 < u4.heap.size := by omega
  have hlt0 : w.heap.size < u4.heap.size := by omega
  simp only [Nat.zero_add] at c5 e0 e1 e2 e3 e4 e5
  rw [← hoth _ _ (by omega), ← bc _ _ hlt0] at c5
  rw [← hoth _ _ (by omega), ← bc _ _ hlt1] at e0 e1 e2 e3 e4 e5
  rw [← bc _ _ hlt] at k0 k1 k2 k3 k4 k5
  have hf1' : ∀ j, w1.frozen? ⟨w.heap.size + 1, j, none⟩ = false := fun j => by rw [bf _ _ hlt1, hfro, hf1]
  have hf2' : ∀ j, w1.frozen? ⟨w.heap.size + 1 + 1, j, none⟩ = false := fun j => by rw [bf _ _ hlt, hfro, hf2]
  have hs1 := hb.size
  have hB1 : Below w.heap.size w w1 := hb4.trans (hb.mono (by omega))
  have hgl := hr.lt_or
  obtain ⟨u5, hu5, s5, p4, hoth5, hfro5, hbel5⟩ := put_one w1 (w.heap.size + 1 + 1) 4 (.slice (some ⟨g, 0, none⟩) set.length set.length) (by rw [k4]; rfl)
  have hr5 : RowI .i64 u5 (some ⟨g, 0, none⟩) set := by rw [← hu5]; exact hr.setOther6 (by omega) _
  have hB5 := hbel5 _ _ hB1 (by omega)
  have HU5 := Lib.hid hu5
  have HF1 := Lib.hid hf1'
  have HF2 := Lib.hid hf2'
  have q5 := hoth5 (w.heap.size + 1 + 1) 5 (by omega)
  have HG := Lib.hid (show w.heap.size + 1 + 1 + 1 ≤ g by omega)
  have HR5 := Lib.hid hr5
  have HB5 := Lib.hid hB5
  have HO5 := Lib.hid hoth5
  have HFR5 := Lib.hid hfro5
  have HS1 := Lib.hid (show w.heap.size + 1 + 1 < w1.heap.size by omega)
  have HS5 := Lib.hid s5
  have HGL := Lib.hid hgl
  have hfz := hf2' 4
  clear hr hb hoth hfro hf1 hf2 hu4 hb4 hbu c0 c1 c2 c3 c4 g0 g1 g2 g3 g4 g5 bc bf hg hu HA hlt hlt1 hlt0 s4 hsz hf1' hf2' hs1 hB1 hgl hu5 hbel5 hr5 hB5 q5 hoth5 hfro5 s5
  go_wp2_with fail
  rw [HU5.out]
  refine (HK.out _ HB5.out).mono ?_
  rintro e w3 ⟨k, rfl, hk, hrk, hb⟩
  obtain ⟨bc, bf⟩ := bcell hb
  have hlt : w.heap.size + 1 + 1 < u5.heap.size := by rw [HS5.out]; exact HS1.out
  have hlt1 : w.heap.size + 1 < u5.heap.size := by omega
  rw [← HO5.out _ _ (by omega), ← bc _ _ hlt1] at e0 e1 e2 e3 e4 e5
  rw [← HO5.out _ _ (by omega), ← bc _ _ hlt] at k0 k1 k2 k3 k5
  rw [← bc _ _ hlt] at p4
  have hf1' : ∀ j, w3.frozen? ⟨w.heap.size + 1, j, none⟩ = false := fun j => by rw [bf _ _ hlt1, HFR5.out, HF1.out]
  have hf2' : ∀ j, w3.frozen? ⟨w.heap.size + 1 + 1, j, none⟩ = false := fun j => by rw [bf _ _ hlt, HFR5.out, HF2.out]
  have HK2 := Lib.hid (show u5.heap.size ≤ k by omega)
  have HR3 := Lib.hid (HR5.out.below hb)
  have HRK := Lib.hid hrk
  have HB3 := Lib.hid (HB5.out.trans (hb.mono (by omega)))
  have HG2 := Lib.hid (show w.heap.size + 1 + 1 < g ∧ w.heap.size + 1 + 1 < k from by have := HG.out; have := HS5.out; have := HS1.out; omega)
  have z0 := hf1' 0
  have z1 := hf1' 1
  have z2 := hf1' 2
  have z3 := hf1' 3
  have z4 := hf1' 4
  have z5 := hf1' 5
  have y5 := hf2' 5
  clear hrk hb bc bf hk hlt hlt1 hf1' hf2' hfz c5
  go_wp2
  refine bodyPost_ret (v := .agg #[.int .i64 op, .int .i64 a, .int .i64 b, .bool neg, .slice (some ⟨g, 0, none⟩) set.length set.length, .slice (some ⟨k, 0, none⟩) kids.length kids.length]) (by simp [results, Tryd.results21, go_sem, *]) rfl ?_
  obtain ⟨hg, hk⟩ := HG2.out
  exact ⟨g, k, rfl, ⟨by omega, by omega⟩, (HR3.out.setOther6 (by omega) _).set6 (by omega) _ _ _ _ _ _, (HRK.out.setOther6 (by omega) _).set6 (by omega) _ _ _ _ _ _, set6_below (HB3.out.setCell (by show w.heap.size ≤ w.heap.size + 1 + 1; omega) _) _ _ _ _ _ _ _ _ (by omega)⟩

theorem infoNd : (Tryd.prog.info? 38).map (fun i => (i.zero, i.size, i.bytes)) = some (some (.agg #[.int .i64 0, .int .i64 0, .int .i64 0, .bool false, .slice none 0 0, .slice none 0 0]), 6, 80) := by kernel_rfl
theorem makeNds (n : Nat) (hn : n ≤ 1048576) (u : World) : (Instr.makeSlice 27 (.int .i64 (n : Int)) (.int .i64 (n : Int))).run Tryd.prog u =
      .ok (.slice (some ⟨u.heap.size, 0, none⟩) n n) (u.alloc (.cells (madeCells #[.int .i64 0, .int .i64 0, .int .i64 0, .bool false, .slice none 0 0, .slice none 0 0] (n * 6)) 38)) := by
  obtain ⟨i0, hi, hz0, hz1, hz2⟩ := info_parts infoNd
  have h := run_make (P := Tryd.prog) u 27 38 i0 (.agg #[.int .i64 0, .int .i64 0, .int .i64 0, .bool false, .slice none 0 0, .slice none 0 0]) Tryd.underlying27 hi hz0 .i64 .i64 (n : Int) (n : Int) (by omega) (Int.le_refl _) (by rw [hz2]; omega) (by omega)
  simpa [hz1, Value.cells] using h
theorem madeNds_get (v0 v1 v2 v3 v4 v5 : Value) (n i : Nat) (hi : i < n) : (madeCells #[v0, v1, v2, v3, v4, v5] (n * 6))[i * 6]? = some v0 ∧ (madeCells #[v0, v1, v2, v3, v4, v5] (n * 6))[i * 6 + 1]? = some v1 ∧ (madeCells #[v0, v1, v2, v3, v4, v5] (n * 6))[i * 6 + 2]? = some v2 ∧ (madeCells #[v0, v1, v2, v3, v4, v5] (n * 6))[i * 6 + 3]? = some v3 ∧ (madeCells #[v0, v1, v2, v3, v4, v5] (n * 6))[i * 6 + 4]? = some v4 ∧ (madeCells #[v0, v1, v2, v3, v4, v5] (n * 6))[i * 6 + 5]? = some v5 := by
  have e0 : (i * 6) % 6 = 0 := by omega
  have e1 : (i * 6 + 1) % 6 = 1 := by omega
  have e2 : (i * 6 + 2) % 6 = 2 := by omega
  have e3 : (i * 6 + 3) % 6 = 3 := by omega
  have e4 : (i * 6 + 4) % 6 = 4 := by omega
  have e5 : (i * 6 + 5) % 6 = 5 := by omega
  refine ⟨?_, ?_, ?_, ?_, ?_, ?_⟩
  · have h : i * 6 < n * 6 := by omega
    simp [madeCells, h, e0]
  · have h : i * 6 + 1 < n * 6 := by omega
    simp [madeCells, h, e1]
  · have h : i * 6 + 2 < n * 6 := by omega
    simp [madeCells, h, e2]
  · have h : i * 6 + 3 < n * 6 := by omega
    simp [madeCells, h, e3]
  · have h : i * 6 + 4 < n * 6 := by omega
    simp [madeCells, h, e4]
  · have h : i * 6 + 5 < n * 6 := by omega
    simp [madeCells, h, e5]
def zeroNd : NdQ := ⟨0, 0, 0, false, none, 0, 0, [], none, 0, 0, []⟩
theorem NdFill.made (w : World) (n : Nat) (T : TypeId) : NdFill w (w.alloc (.cells (madeCells #[.int .i64 0, .int .i64 0, .int .i64 0, .bool false, .slice none 0 0, .slice none 0 0] (n * 6)) T)) w.heap.size n (fun _ => zeroNd) := by
  refine ⟨(Below.refl _ _).alloc (Nat.le_refl _) _, Nat.le_refl _, by simp, fun i hi => ?_, fun j hj => by simp⟩
  obtain ⟨h0, h1, h2, h3, h4, h5⟩ := madeNds_get (.int .i64 0) (.int .i64 0) (.int .i64 0) (.bool false) (.slice none 0 0) (.slice none 0 0) n i hi
  unfold NdCells zeroNd
  refine ⟨?_, ?_, ?_, ?_, ?_, ?_⟩
  · rw [← h0]; simp
  · rw [← h1]; simp
  · rw [← h2]; simp
  · rw [← h3]; simp
  · rw [← h4]; simp
  · rw [← h5]; simp
def NdOwn (w : World) (B : Nat) (q : NdQ) : Prop := ∃ s k, q.sa = some ⟨s, 0, none⟩ ∧ q.ka = some ⟨k, 0, none⟩ ∧ (B ≤ s ∧ B ≤ k) ∧ NdFine w q
/-- what toRxNodeS leaves: a new row of nodes that say the same, each with a new set -/
def MadeNodes (w : World) (Q : List NdQ) (v : Value) (w' : World) : Prop :=
  ∃ (g : Nat) (Q' : List NdQ), v = .slice (some ⟨g, 0, none⟩) Q.length Q.length ∧ w.heap.size ≤ g ∧ NdR w' (some ⟨g, 0, none⟩) Q' ∧ (∀ q ∈ Q', NdOwn w' w.heap.size q) ∧ ndsOf Q' = ndsOf Q ∧ Below w.heap.size w w'
theorem NdOwn.fine {w : World} {B : Nat} {q : NdQ} (h : NdOwn w B q) : NdFine w q := by
  obtain ⟨s, k, e1, e2, e3, e4⟩ := h
  exact e4
theorem NdOwn.mono {w : World} {B B' : Nat} {q : NdQ} (h : NdOwn w B q) (hB : B' ≤ B) : NdOwn w B' q := by
  obtain ⟨s, k, e1, e2, e3, e4⟩ := h
  exact ⟨s, k, e1, e2, ⟨Nat.le_trans hB e3.1, Nat.le_trans hB e3.2⟩, e4⟩
theorem NdOwn.below {w w' : World} {B : Nat} {q : NdQ} (h : NdOwn w B q) (hb : Below w.heap.size w w') : NdOwn w' B q := by
  obtain ⟨s, k, e1, e2, e3, e4⟩ := h
  exact ⟨s, k, e1, e2, e3, e4.below hb⟩
theorem NdOwn.other {w : World} {B : Nat} {q : NdQ} (h : NdOwn w B q) {g o : Nat} (hg : g < B) (v : Value) : NdOwn (w.setCell ⟨g, o, none⟩ v) B q := by
  obtain ⟨s, k, e1, e2, e3, e4⟩ := h
  obtain ⟨⟨f1, f2⟩, f3⟩ := e4
  refine ⟨s, k, e1, e2, e3, ⟨?_, ?_⟩, f3⟩
  · rw [e1] at f1 ⊢
    exact f1.setOther6 (by omega) _
  · rw [e2] at f2 ⊢
    exact f2.setOther6 (by omega) _
theorem NdOwn.set6 {w : World} {B : Nat} {q : NdQ} (h : NdOwn w B q) {g m : Nat} (hg : g < B) (v0 v1 v2 v3 v4 v5 : Value) : NdOwn (set6 w g m v0 v1 v2 v3 v4 v5) B q :=
  (((((h.other hg v0).other hg v1).other hg v2).other hg v3).other hg v4).other hg v5
set_option maxHeartbeats 1000000 in
theorem toRxNodeS_any (a : Option Addr) (cap : Nat) (Q : List NdQ) (w : World) (h : NdR w a Q) (hl : Q.length ≤ 1048576) (hql : ∀ q ∈ Q, q.sl ≤ 1048576 ∧ q.kl ≤ 1048576) :
    Calls Tryd.prog 14 #[.slice a Q.length cap] w fun e w' => ∃ v, e = .returned v ∧ MadeNodes w Q v w' := by
  have hmk := makeNds Q.length hl
  have HF := Lib.hid (NdFill.made w Q.length 38)
  have HR := Lib.hid h
  have HL := Lib.hid hql
  clear h hql
  go_enter Tryd.func14, Tryd.ntmps14
  go_wp2
  go_loopw [4] (fun i wr => ∃ (k : Nat) (Q' : List NdQ), k ≤ Q.length ∧ i = .int .i64 k ∧ Q'.length = k ∧ ndsOf Q' = ndsOf (Q.take k) ∧ (∀ q ∈ Q', NdOwn wr (w.heap.size + 1) q) ∧ NdFill w wr w.heap.size Q.length (fun j => Q'.getD j zeroNd)) (fun i _ => Q.length - (intOf i).toNat)
  case atStart => exact ⟨0, [], Nat.zero_le _, rfl, rfl, rfl, fun q hq => by simp at hq, HF.out⟩
  case round =>
    obtain ⟨k, Q', hk, rfl, hQk, hss, hrows, hfill⟩ := hrel
    have HI := Lib.hid hfill
    have HSS := Lib.hid hss
    have HRW := Lib.hid hrows
    have HQK := Lib.hid hQk
    clear hfill hss hrows hQk hmk
    by_cases hlt : k < Q.length
    · have hR : NdR wr a Q := HR.out.below HI.out.below
      obtain ⟨hr1, hr2⟩ := hR
      rcases hr1 with h0 | ⟨b, off, rfl, hbl, hc⟩
      · rw [h0] at hlt; exact absurd hlt (Nat.not_lt_zero _)
      have hc0 := hc k hlt
      have hqk := hr2 _ (List.getElem_mem hlt)
      have hlk := HL.out _ (List.getElem_mem hlt)
      have htk : Q.take (k + 1) = Q.take k ++ [Q[k]] := List.take_succ_eq_append_getElem hlt
      generalize Q[k] = q at *
      obtain ⟨d0, d1, d2, d3, d4, d5⟩ := hc0
      have HTK := Lib.hid htk
      have HQ := Lib.hid (toRxNode_any q wr hqk hlk)
      have HFN := Lib.hid hqk.2
      clear hc htk hqk hr2
      go_wp2_with fail
      refine HQ.out.mono ?_
      rintro e w2 ⟨g2, k2, rfl, ⟨hg2, hk2⟩, hrb, hrk, hb2⟩
      have HI2 := Lib.hid (HI.out.call hb2)
      have HRW2 := Lib.hid (fun q hq => (HRW.out q hq).below hb2)
      have HRB := Lib.hid (show NdOwn w2 (w.heap.size + 1) ⟨q.op, q.a, q.b, q.neg, some ⟨g2, 0, none⟩, q.sl, q.sl, q.set, some ⟨k2, 0, none⟩, q.kl, q.kl, q.kids⟩ from ⟨g2, k2, rfl, rfl, ⟨Nat.le_trans HI.out.hi hg2, Nat.le_trans HI.out.hi hk2⟩, ⟨hrb, hrk⟩, HFN.out.1, ⟨Nat.le_refl _, Nat.le_refl _⟩, HFN.out.2.2⟩)
      have hs0 := HI2.out.cell k hlt
      have hf := HI2.out.free
      have hgd : Q'.getD k zeroNd = zeroNd := by
        rw [List.getD_eq_getElem?_getD, List.getElem?_eq_none (by rw [HQK.out]; exact Nat.le_refl _)]
        rfl
      rw [hgd] at hs0
      obtain ⟨s0, s1, s2, s3, s4, s5⟩ := hs0
      unfold zeroNd at s0 s1 s2 s3 s4 s5
      have f0 := hf (k * 6) (by omega)
      have f1 := hf (k * 6 + 1) (by omega)
      have f2 := hf (k * 6 + 2) (by omega)
      have f3 := hf (k * 6 + 3) (by omega)
      have f4 := hf (k * 6 + 4) (by omega)
      have f5 := hf (k * 6 + 5) (by omega)
      clear hgd hb2 hrb hrk hf
      go_wp2
      go_light
      refine ⟨⟨k + 1, Q' ++ [⟨q.op, q.a, q.b, q.neg, some ⟨g2, 0, none⟩, q.sl, q.sl, q.set, some ⟨k2, 0, none⟩, q.kl, q.kl, q.kids⟩], by omega, by go_num, by rw [List.length_append, HQK.out]; rfl, ?_, fun t ht => ?_, ?_⟩, by simp [intOf]; omega⟩
      · unfold ndsOf at *
        rw [HTK.out, List.map_append, List.map_append, HSS.out]
        rfl
      · rw [List.mem_append] at ht
        rcases ht with ht | ht
        · exact (HRW2.out t ht).set6 (by omega) _ _ _ _ _ _
        · simp at ht
          subst ht
          exact HRB.out.set6 (by omega) _ _ _ _ _ _
      · refine (HI2.out.store hlt ⟨q.op, q.a, q.b, q.neg, some ⟨g2, 0, none⟩, q.sl, q.sl, q.set, some ⟨k2, 0, none⟩, q.kl, q.kl, q.kids⟩).congr ?_
        intro j hj
        rw [List.getD_eq_getElem?_getD, List.getD_eq_getElem?_getD]
        by_cases e : j = k
        · subst e
          rw [if_pos rfl, List.getElem?_append_right (by rw [HQK.out]; exact Nat.le_refl _), HQK.out, Nat.sub_self]
          rfl
        · rw [if_neg e]
          by_cases e1 : j < k
          · rw [List.getElem?_append_left (by rw [HQK.out]; exact e1)]
          · rw [List.getElem?_eq_none (by rw [HQK.out]; omega), List.getElem?_eq_none (by rw [List.length_append, HQK.out]; simp; omega)]
    · obtain rfl : k = Q.length := by omega
      go_wp2
      go_ret
      refine ⟨_, rfl, w.heap.size, Q', rfl, Nat.le_refl _, ⟨?_, fun q hq => (HRW.out q hq).fine⟩, fun q hq => (HRW.out q hq).mono (by omega), ?_, HI.out.below⟩
      · right
        refine ⟨w.heap.size, 0, rfl, HI.out.hi, fun i hi => ?_⟩
        have := HI.out.cell i (by rw [← HQK.out]; exact hi)
        rw [List.getD_eq_getElem?_getD, List.getElem?_eq_getElem hi] at this
        rw [Nat.zero_add]
        exact this
      · rw [HSS.out, List.take_of_length_le (Nat.le_refl _)]
theorem laid_one2 (u : World) (v : Value) (t : TypeId) : ∃ w0, u.alloc (.cells #[v] t) = w0 ∧ w0.heap.size = u.heap.size + 1 ∧ Below u.heap.size u w0 ∧ w0.cell? ⟨u.heap.size, 0, none⟩ = some v ∧ w0.frozen? ⟨u.heap.size, 0, none⟩ = false :=
  ⟨_, rfl, by simp, (Below.refl _ _).alloc (Nat.le_refl _) _, by simp, by simp⟩
theorem rx_laid (w : World) (v x y : Value) (t1 t2 : TypeId) : ∃ u, ((w.alloc (.cells #[v] t1)).alloc (.cells #[x] t2)).alloc (.cells #[y] t2) = u ∧ u.heap.size = w.heap.size + 1 + 1 + 1 ∧ Below w.heap.size w u ∧ u.cell? ⟨w.heap.size, 0, none⟩ = some v ∧
    (u.cell? ⟨w.heap.size + 1, 0, none⟩ = some x ∧ u.frozen? ⟨w.heap.size + 1, 0, none⟩ = false) ∧ (u.cell? ⟨w.heap.size + 1 + 1, 0, none⟩ = some y ∧ u.frozen? ⟨w.heap.size + 1 + 1, 0, none⟩ = false) := by
  obtain ⟨u1, h1, s1, b1, c1, _⟩ := laid_one2 w v t1
  obtain ⟨u2, h2, s2, b2, c2, f2⟩ := laid_one2 u1 x t2
  obtain ⟨u3, h3, s3, b3, c3, f3⟩ := laid_one2 u2 y t2
  rw [s1] at c2 f2 s2
  rw [s2] at c3 f3 s3
  refine ⟨u3, by rw [h1, h2, h3], s3, (b1.trans (b2.mono b1.size)).trans (b3.mono (Nat.le_trans b1.size b2.size)), ?_, ⟨?_, ?_⟩, c3, f3⟩
  · rw [b3.cell (p := ⟨w.heap.size, 0, none⟩) (by show w.heap.size < _; omega), b2.cell (p := ⟨w.heap.size, 0, none⟩) (by show w.heap.size < _; omega)]; exact c1
  · rw [b3.cell (p := ⟨w.heap.size + 1, 0, none⟩) (by show w.heap.size + 1 < _; omega)]; exact c2
  · rw [b3.frozen (p := ⟨w.heap.size + 1, 0, none⟩) (by show w.heap.size + 1 < _; omega)]; exact f2
theorem NdR.setOther {w : World} {a : Addr} {Q : List NdQ} {B : Nat} (h : NdR w (some a) Q) (ha : B ≤ a.block) (hs : ∀ q ∈ Q, NdOwn w B q) {b o : Nat} (hb : b < B) (v : Value) : NdR (w.setCell ⟨b, o, none⟩ v) (some a) Q ∧ ∀ q ∈ Q, NdOwn (w.setCell ⟨b, o, none⟩ v) B q := by
  have ho : ∀ q ∈ Q, NdOwn (w.setCell ⟨b, o, none⟩ v) B q := fun q hq => (hs q hq).other hb v
  refine ⟨⟨?_, fun q hq => (ho q hq).fine⟩, ho⟩
  rcases h.1 with h | ⟨b', off, e, hlt, hc⟩
  · exact .inl h
  · obtain rfl : a = ⟨b', off, none⟩ := by simpa using e
    simp only [] at ha
    refine .inr ⟨b', off, rfl, by simpa [World.setCell] using hlt, fun i hi => ?_⟩
    obtain ⟨c0, c1, c2, c3, c4, c5⟩ := hc i hi
    refine ⟨?_, ?_, ?_, ?_, ?_, ?_⟩
    all_goals (rw [World.cell?_setCell_other _ _ _ _ (by rintro ⟨⟩; omega)]; assumption)
theorem toRx_any (a : Option Addr) (cap : Nat) (Q : List NdQ) (w : World) (h : NdR w a Q) (hl : Q.length ≤ 1048576) (hql : ∀ q ∈ Q, q.sl ≤ 1048576 ∧ q.kl ≤ 1048576) :
    Calls Tryd.prog 6 #[.agg #[.slice a Q.length cap]] w fun e w' => ∃ (g : Nat) (Q' : List NdQ), e = .returned (.agg #[.slice (some ⟨g, 0, none⟩) Q.length Q.length]) ∧ NdR w' (some ⟨g, 0, none⟩) Q' ∧ ndsOf Q' = ndsOf Q ∧ Below w.heap.size w w' := by
  have HA := Lib.hid (fun W (hb : Below w.heap.size w W) => toRxNodeS_any a cap Q W (h.below hb) hl hql)
  clear h hql
  obtain ⟨u, hu, hsz, hbu, hc0, ⟨hc1, hf1⟩, hc2, hf2⟩ := rx_laid w (.slice a Q.length cap) (.slice none 0 0) (.slice none 0 0) 24 29
  go_enter Tryd.func6, Tryd.ntmps6
  go_wp2_with fail
  refine (HA.out _ hbu).mono ?_
  rintro e w1 ⟨v, rfl, g, Q', rfl, hg, hr, hown, hv, hb⟩
  rw [← hb.cell (p := ⟨w.heap.size + 1, 0, none⟩) (by show w.heap.size + 1 < _; omega)] at hc1
  rw [← hb.cell (p := ⟨w.heap.size + 1 + 1, 0, none⟩) (by show w.heap.size + 1 + 1 < _; omega)] at hc2
  rw [← hb.frozen (p := ⟨w.heap.size + 1, 0, none⟩) (by show w.heap.size + 1 < _; omega)] at hf1
  rw [← hb.frozen (p := ⟨w.heap.size + 1 + 1, 0, none⟩) (by show w.heap.size + 1 + 1 < _; omega)] at hf2
  have HG := Lib.hid (show w.heap.size + 3 ≤ g by omega)
  have HR := Lib.hid hr
  have HV := Lib.hid hv
  have HO := Lib.hid (fun q hq => (hown q hq).mono (show w.heap.size + 3 ≤ u.heap.size by omega))
  have HBB := Lib.hid (hbu.trans (hb.mono (by omega)))
  clear hr hb hown hg hbu hu hsz HA hv
  go_wp2
  refine bodyPost_ret (v := .agg #[.slice (some ⟨g, 0, none⟩) Q.length Q.length]) (by simp [results, Tryd.results6, go_sem, *]) rfl ?_
  obtain ⟨h1, h2⟩ := HR.out.setOther HG.out HO.out (b := w.heap.size + 1 + 1) (o := 0) (by omega) (.slice (some ⟨g, 0, none⟩) Q.length Q.length)
  obtain ⟨h3, h4⟩ := h1.setOther HG.out h2 (b := w.heap.size + 1) (o := 0) (by omega) (.slice (some ⟨g, 0, none⟩) Q.length Q.length)
  exact ⟨g, Q', rfl, h3, HV.out, (HBB.out.setCell (by show w.heap.size ≤ w.heap.size + 1 + 1; omega) _).setCell (by show w.heap.size ≤ w.heap.size + 1; omega) _⟩
end Go.Proofs.YtpolpihgclemnaaDoor

/-
  Rows that are being read: those that are whole, and the cells of the one that is not, in a variable of its own. No program's function here. No condition.
-/
import Derived.Test.YthpdmipgnoidpaaDoorRowMarks
import Derived.Test.YthpdmipgnoidpaaDoorCsvL
import Derived.Maps.AppendAt
import Derived.Deep.AppendLies
namespace Go.Proofs.YthpdmipgnoidpaaDoor
open Go.RowKit
set_option linter.unusedVariables false
set_option linter.unusedSimpArgs false

/-- what one new cell holds -/
theorem one_news (u : World) (v : Value) (t : TypeId) (b : Nat) (hb : b = u.heap.size) : ∀ j x, [v][j]? = some x → (u.alloc (.cells #[v] t)).cell? ((⟨b, 0, none⟩ : Addr).add j) = some x := by subst hb; exact cell_one_new u v t
theorem one_at (u : World) (v : Value) (t : TypeId) (b : Nat) (hb : b = u.heap.size) : (u.alloc (.cells #[v] t)).cell? ((⟨b, 0, none⟩ : Addr).add 0) = some v := by subst hb; exact cell_one_new u v t 0 v rfl
/-- the strings of rows -/
def rowsS (R : Row3) : List (List ByteArray) := R.map fun r => r.map ofL
theorem rowsS_snoc (R : Row3) (r : List (List UInt8)) : rowsS (R ++ [r]) = rowsS R ++ [r.map ofL] := by simp [rowsS]
theorem ssOf_snoc (Q : List RowQ) (q : RowQ) : ssOf (Q ++ [q]) = ssOf Q ++ [q.ss] := by simp [ssOf]
theorem ssOf_len {Q : List RowQ} {R : Row3} (h : ssOf Q = rowsS R) : Q.length = R.length := by
  have := congrArg List.length h
  unfold ssOf rowsS at this
  rwa [List.length_map, List.length_map] at this
theorem emptyRow (w : World) (B : Nat) (e : TypeId) : w.ownsRow B e 1 (.slice none 0 0) 0 [] := ownsRow_none _ _ _

/-- the row that is being read: its cells' slice stands in block g; all rows that are whole lie ahead of T, its cells from T on -/
structure CurRows (wr : World) (B g : Nat) (rv : Value) (Q : List RowQ) (T : Nat) (cv : Value) (cells : List (List UInt8)) (rows : Row3) : Prop where
  out : OutRows wr B rv Q T
  ss : ssOf Q = rowsS rows
  cell : wr.cell? ⟨g, 0, none⟩ = some cv
  free : wr.frozen? ⟨g, 0, none⟩ = false
  own : wr.ownsRow T 9 1 cv cells.length ((cells.map ofL).map Value.string)
  lo : B ≤ T
  hi : T ≤ wr.heap.size
  gB : g < B
theorem CurRows.below {wr w' : World} {B g T : Nat} {rv cv : Value} {Q : List RowQ} {cells : List (List UInt8)} {rows : Row3} (h : CurRows wr B g rv Q T cv cells rows) (hb : Below wr.heap.size wr w') : CurRows w' B g rv Q T cv cells rows := by
  have hg : g < wr.heap.size := cell_lt h.cell
  exact ⟨h.out.below hb, h.ss, by rw [hb.cell (p := ⟨g, 0, none⟩) hg]; exact h.cell, by rw [hb.frozen (p := ⟨g, 0, none⟩) hg]; exact h.free, ownsRow_below h.own hb, h.lo, Nat.le_trans h.hi hb.size, h.gB⟩
theorem CurRows.most {wr w' : World} {B g T p : Nat} {rv cv : Value} {Q : List RowQ} {cells : List (List UInt8)} {rows : Row3} (h : CurRows wr B g rv Q T cv cells rows) (hb : Mostly p wr w') (hp : p < B) (hpg : g ≠ p) : CurRows w' B g rv Q T cv cells rows := by
  have hg : g < wr.heap.size := cell_lt h.cell
  exact ⟨h.out.most hb hp, h.ss, by rw [hb.cell hpg hg]; exact h.cell, by rw [hb.frozen hpg hg]; exact h.free, hb.ownsRow h.own (fun e => by have := (h.own.lt p e).1; have := h.lo; omega), h.lo, Nat.le_trans h.hi hb.size, h.gB⟩
theorem CurRows.sliceC {wr : World} {B g T : Nat} {rv cv : Value} {Q : List RowQ} {cells : List (List UInt8)} {rows : Row3} (h : CurRows wr B g rv Q T cv cells rows) : ∃ a c, cv = .slice a cells.length c := ownsRow_slice h.own
/-- what is kept while the cells' slice grows -/
theorem CurRows.grown {wr w2 : World} {B g T : Nat} {rv cv : Value} {Q : List RowQ} {cells : List (List UInt8)} {rows : Row3} (h : CurRows wr B g rv Q T cv cells rows) (hg : wr.grownBy w2 cv.ownBlock) : w2.cell? ⟨g, 0, none⟩ = some cv ∧ w2.frozen? ⟨g, 0, none⟩ = false ∧ OutRows w2 B rv Q T ∧ T ≤ w2.heap.size ∧ Below B wr w2 := by
  have hlt : g < wr.heap.size := cell_lt h.cell
  have hne : some g ≠ cv.ownBlock := fun e => by have := (h.own.lt g e.symm).1; have := h.lo; have := h.gB; omega
  refine ⟨by rw [hg.cell_far ⟨g, 0, none⟩ hlt hne]; exact h.cell, by rw [hg.frozen_far ⟨g, 0, none⟩ hlt hne]; exact h.free, h.out.beside h.own hg, Nat.le_trans h.hi hg.size, ?_⟩
  exact Below.grown (Below.refl _ _) hg (Nat.le_trans h.lo h.hi) (fun k hk => Nat.le_trans h.lo (h.own.lt k hk).1)
/-- one more cell -/
theorem CurRows.push {wr w2 : World} {B g T : Nat} {rv cv cv2 : Value} {Q : List RowQ} {cells : List (List UInt8)} {rows : Row3} {x : List UInt8} (h : CurRows wr B g rv Q T cv cells rows) (hg : wr.grownBy w2 cv.ownBlock) (ho : w2.ownsRow T 9 1 cv2 (cells.length + 1) ((cells.map ofL).map Value.string ++ [.string (ofL x)])) :
    CurRows (w2.setCell ⟨g, 0, none⟩ cv2) B g rv Q T cv2 (cells ++ [x]) rows := by
  obtain ⟨h1, h2, h3, h4, _⟩ := h.grown hg
  have hm : Mostly g w2 (w2.setCell ⟨g, 0, none⟩ cv2) := .set _ _ _ _
  refine ⟨h3.most hm h.gB, h.ss, World.cell?_setCell_same' _ _ _ (by rw [h1]; rfl), by rw [World.frozen?_setCell]; exact h2, ?_, h.lo, Nat.le_trans h4 hm.size, h.gB⟩
  have e : ((cells ++ [x]).map ofL).map Value.string = (cells.map ofL).map Value.string ++ [.string (ofL x)] := by simp
  rw [e, List.length_append]
  exact hm.ownsRow ho (fun e => by have := (ho.lt g e).1; have := h.lo; have := h.gB; omega)
/-- a row is whole: the variable is empty again -/
theorem CurRows.next {wr w2 : World} {B g T : Nat} {rv rv2 cv : Value} {Q : List RowQ} {q : RowQ} {cells : List (List UInt8)} {rows : Row3} (h : CurRows wr B g rv Q T cv cells rows) (hb : Below B wr w2) (ho : RowsIn w2 B rv2 (Q ++ [q]) w2.heap.size) (hq : q.ss = cells.map ofL) (hc : (w2.cell? ⟨g, 0, none⟩).isSome = true) :
    CurRows (w2.setCell ⟨g, 0, none⟩ (.slice none 0 0)) B g rv2 (Q ++ [q]) w2.heap.size (.slice none 0 0) [] (rows ++ [cells]) := by
  have hm : Mostly g w2 (w2.setCell ⟨g, 0, none⟩ (.slice none 0 0)) := .set _ _ _ _
  exact ⟨.inr (RowsOf.most ho hm h.gB), by rw [ssOf_snoc, rowsS_snoc, h.ss, hq], World.cell?_setCell_same' _ _ _ hc, by rw [World.frozen?_setCell, hb.frozen (p := ⟨g, 0, none⟩) h.gB]; exact h.free, emptyRow _ _ _, Nat.le_trans h.lo (Nat.le_trans h.hi hb.size), hm.size, h.gB⟩
/-- the row, as it is appended -/
theorem CurRows.rowQ {wr : World} {B g T : Nat} {rv cv : Value} {Q : List RowQ} {cells : List (List UInt8)} {rows : Row3} (h : CurRows wr B g rv Q T cv cells rows) : ∃ q : RowQ, q.v = cv ∧ q.l = cells.length ∧ q.ss = cells.map ofL ∧ wr.ownsRow T 9 1 q.v q.l (q.ss.map Value.string) := by
  obtain ⟨a, c, rfl⟩ := ownsRow_slice h.own
  exact ⟨⟨a, cells.length, c, cells.map ofL⟩, rfl, rfl, rfl, h.own⟩
/-- what reading gives: rows of the call's own, an offset, a code -/
def RowsPost (w : World) (G : Row3 × Nat × Nat) (e : Ending) (w' : World) : Prop :=
  ∃ v Q, e = .returned (.tuple #[v, .int .i64 (G.2.1 : Int), .int .i64 (G.2.2 : Int)]) ∧ ssOf Q = rowsS G.1 ∧ RowsIn w' w.heap.size v Q w'.heap.size ∧ Below w.heap.size w w'
/-- .. where no row was read, the rows' slice may be the empty literal -/
theorem outRows_post {w wr : World} {B T : Nat} {v : Value} {Q : List RowQ} (h : OutRows wr B v Q T) (h0 : Q = [] → ∃ T, RowsIn wr w.heap.size v [] T) (hB : w.heap.size ≤ B) : RowsIn wr w.heap.size v Q wr.heap.size := by
  rcases h with ⟨rfl, _⟩ | h
  · obtain ⟨T, h1⟩ := h0 rfl
    exact ⟨h1.outer, fun i hi => by simp at hi, fun i j hi => by simp at hi⟩
  · exact RowsOf.all (RowsOf.base h hB)
end Go.Proofs.YthpdmipgnoidpaaDoor

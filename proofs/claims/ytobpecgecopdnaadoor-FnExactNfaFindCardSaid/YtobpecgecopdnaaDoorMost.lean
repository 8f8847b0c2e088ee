/-
  Worlds between which of what was there nothing but one block may have turned; a reader's cells. No program's function here. No condition.
-/
import Derived.Test.YtobpecgecopdnaaDoorOwns
import Derived.Test.YtobpecgecopdnaaDoorInts
import Derived.Laws.OwnMore
import Derived.Deep.RegionLawGrows
namespace Go.Proofs.YtobpecgecopdnaaDoor
open Go.RowKit
set_option linter.unusedVariables false
set_option linter.unusedSimpArgs false

/-- of what was there nothing but block p may have turned -/
structure Mostly (p : Nat) (w w' : World) : Prop where
  os : w'.os = w.os
  tape : w'.tape = w.tape
  output : w'.output = w.output
  size : w.heap.size ≤ w'.heap.size
  block : ∀ k, k ≠ p → k < w.heap.size → w'.heap[k]? = w.heap[k]?
theorem Mostly.refl (p : Nat) (w : World) : Mostly p w w := ⟨rfl, rfl, rfl, Nat.le_refl _, fun _ _ _ => rfl⟩
theorem Mostly.trans {p : Nat} {a b c : World} (h : Mostly p a b) (k : Mostly p b c) : Mostly p a c :=
  ⟨k.os.trans h.os, k.tape.trans h.tape, k.output.trans h.output, Nat.le_trans h.size k.size, fun i hi hl => (k.block i hi (Nat.lt_of_lt_of_le hl h.size)).trans (h.block i hi hl)⟩
theorem Mostly.of_below {p : Nat} {w w' : World} (h : Below w.heap.size w w') : Mostly p w w' := ⟨h.os, h.tape, h.output, h.size, fun k _ hl => h.block k hl⟩
theorem Mostly.call {p : Nat} {a w w' : World} (k : Mostly p a w) (h : Below w.heap.size w w') : Mostly p a w' := k.trans (.of_below h)
theorem Mostly.below {p B : Nat} {w w' : World} (h : Mostly p w w') (h1 : B ≤ p) (h2 : B ≤ w.heap.size) : Below B w w' :=
  ⟨h.os, h.tape, h.output, h.size, fun k hk => h.block k (by omega) (by omega)⟩
theorem Mostly.cell {p : Nat} {w w' : World} (h : Mostly p w w') {b o : Nat} (hb : b ≠ p) (hl : b < w.heap.size) : w'.cell? ⟨b, o, none⟩ = w.cell? ⟨b, o, none⟩ := by
  unfold World.cell?; rw [h.block b hb hl]
theorem Mostly.frozen {p : Nat} {w w' : World} (h : Mostly p w w') {b o : Nat} (hb : b ≠ p) (hl : b < w.heap.size) : w'.frozen? ⟨b, o, none⟩ = w.frozen? ⟨b, o, none⟩ := by
  unfold World.frozen?; rw [h.block b hb hl]
theorem Mostly.set (w : World) (p o : Nat) (v : Value) : Mostly p w (w.setCell ⟨p, o, none⟩ v) := by
  have h : Below (w.heap.size) w w := Below.refl _ _
  refine ⟨rfl, rfl, rfl, by simp [World.setCell], fun k hk hl => ?_⟩
  unfold World.setCell
  simp only [Array.getElem?_modify]
  rw [if_neg (fun e => hk e.symm)]
theorem Mostly.setCell {p : Nat} {a w : World} (h : Mostly p a w) (o : Nat) (v : Value) : Mostly p a (w.setCell ⟨p, o, none⟩ v) := h.trans (.set _ _ _ _)
theorem Mostly.ownsRow {p B n : Nat} {e : TypeId} {sz : Nat} {v : Value} {xs : List Value} {w w' : World} (h : Mostly p w w') (ho : w.ownsRow B e sz v n xs) (hne : v.ownBlock ≠ some p) : w'.ownsRow B e sz v n xs := by
  refine ⟨ho.1, ?_⟩
  rcases ho.2 with hn | ⟨g, cap, cur, rfl, hb, hg, rest⟩
  · exact .inl hn
  · refine .inr ⟨g, cap, cur, rfl, hb, ?_, rest⟩
    rw [h.block g (fun e => hne (by rw [e]; rfl)) (Array.getElem?_eq_some_iff.1 hg).1]
    exact hg

/-- a reader in block g: its text, where it stands -/
structure Rdr (w : World) (g : Nat) (s : ByteArray) (k : Nat) : Prop where
  text : w.cell? ⟨g, 0, none⟩ = some (.string s)
  place : w.cell? ⟨g, 1, none⟩ = some (.int .i64 (k : Int))
  free : w.frozen? ⟨g, 1, none⟩ = false
  lt : g < w.heap.size
theorem Rdr.below {w w' : World} {g : Nat} {s : ByteArray} {k : Nat} (h : Rdr w g s k) (hb : Below w.heap.size w w') : Rdr w' g s k :=
  ⟨by rw [hb.cell (p := ⟨g, 0, none⟩) h.lt]; exact h.text, by rw [hb.cell (p := ⟨g, 1, none⟩) h.lt]; exact h.place, by rw [hb.frozen (p := ⟨g, 1, none⟩) h.lt]; exact h.free, Nat.lt_of_lt_of_le h.lt hb.size⟩
theorem Rdr.most {w w' : World} {p g : Nat} {s : ByteArray} {k : Nat} (h : Rdr w g s k) (hb : Mostly p w w') (hne : g ≠ p) : Rdr w' g s k :=
  ⟨by rw [hb.cell hne h.lt]; exact h.text, by rw [hb.cell hne h.lt]; exact h.place, by rw [hb.frozen hne h.lt]; exact h.free, Nat.lt_of_lt_of_le h.lt hb.size⟩
theorem Rdr.set {w : World} {g : Nat} {s : ByteArray} {k : Nat} (h : Rdr w g s k) (v : Value) (j : Nat) (hv : v = .int .i64 (j : Int)) : Rdr (w.setCell ⟨g, 1, none⟩ v) g s j :=
  ⟨by rw [World.cell?_setCell_other _ _ _ _ (by rintro ⟨⟩)]; exact h.text, by rw [World.cell?_setCell_same' _ _ _ (by rw [h.place]; rfl), hv], by rw [World.frozen?_setCell]; exact h.free, by simpa [World.setCell] using h.lt⟩
theorem Rdr.grown {w w' : World} {g : Nat} {s : ByteArray} {k : Nat} {row : Option Nat} (h : Rdr w g s k) (hg : w.grownBy w' row) (hne : some g ≠ row) : Rdr w' g s k := by
  have hb := hg.block g h.lt hne
  exact ⟨by rw [World.cell?_of_block (a := ⟨g, 0, none⟩) hb]; exact h.text, by rw [World.cell?_of_block (a := ⟨g, 1, none⟩) hb]; exact h.place, by rw [World.frozen?_of_block (a := ⟨g, 1, none⟩) hb]; exact h.free, Nat.lt_of_lt_of_le h.lt hg.size⟩
theorem Mostly.grown {p : Nat} {a w w' : World} {row : Option Nat} (h : Mostly p a w) (hg : w.grownBy w' row) (hr : ∀ k, row = some k → a.heap.size ≤ k) : Mostly p a w' :=
  ⟨hg.os.trans h.os, hg.tape.trans h.tape, hg.output.trans h.output, Nat.le_trans h.size hg.size, fun k hk hl => (hg.block k (Nat.lt_of_lt_of_le hl h.size) (fun e => by have := hr k e.symm; omega)).trans (h.block k hk hl)⟩
end Go.Proofs.YtobpecgecopdnaaDoor

/-
  A row of marks in a block of its own: what is read, what stays, what turns; a measure for a stack and its marks. No program's function here. No condition.
-/
import Derived.Test.YtobpecgecopdnaaDoorNfaInst
import Derived.Test.YtobpecgecopdnaaDoorMost
import Derived.Test.YtobpecgecopdnaaDoorInts
import Derived.Test.YtobpecgecopdnaaDoorOutRow
namespace Go.Proofs.YtobpecgecopdnaaDoor
open Go.RowKit
set_option linter.unusedVariables false
set_option linter.unusedSimpArgs false

/-- n cells in block h, none frozen -/
structure Marks (w : World) (h n : Nat) (f : Nat → Value) : Prop where
  cell : ∀ j, j < n → w.cell? ⟨h, j, none⟩ = some (f j)
  free : ∀ j, j < n → w.frozen? ⟨h, j, none⟩ = false
  lt : h < w.heap.size
theorem Marks.of_fill {w wr : World} {g n : Nat} {f : Nat → Value} (h : Fill w wr g n f) : Marks wr g n f := ⟨h.cell, h.free, h.hi⟩
theorem Marks.below {w w' : World} {h n : Nat} {f : Nat → Value} (m : Marks w h n f) (hb : Below w.heap.size w w') : Marks w' h n f :=
  ⟨fun j hj => by rw [hb.cell (p := ⟨h, j, none⟩) m.lt]; exact m.cell j hj, fun j hj => by rw [hb.frozen (p := ⟨h, j, none⟩) m.lt]; exact m.free j hj, Nat.lt_of_lt_of_le m.lt hb.size⟩
theorem Marks.most {w w' : World} {p h n : Nat} {f : Nat → Value} (m : Marks w h n f) (hb : Mostly p w w') (hne : h ≠ p) : Marks w' h n f :=
  ⟨fun j hj => by rw [hb.cell hne m.lt]; exact m.cell j hj, fun j hj => by rw [hb.frozen hne m.lt]; exact m.free j hj, Nat.lt_of_lt_of_le m.lt hb.size⟩
theorem Marks.congr {w : World} {h n : Nat} {f g : Nat → Value} (m : Marks w h n f) (e : ∀ j, j < n → f j = g j) : Marks w h n g :=
  ⟨fun j hj => by rw [← e j hj]; exact m.cell j hj, m.free, m.lt⟩
theorem Marks.set {w : World} {h n : Nat} {f : Nat → Value} (m : Marks w h n f) {i : Nat} (hi : i < n) (v : Value) : Marks (w.setCell ⟨h, i, none⟩ v) h n (fun j => if j = i then v else f j) := by
  refine ⟨fun j hj => ?_, fun j hj => by rw [World.frozen?_setCell]; exact m.free j hj, by simpa [World.setCell] using m.lt⟩
  by_cases e : j = i
  · subst e
    rw [World.cell?_setCell_same' _ _ _ (by rw [m.cell j hj]; rfl), if_pos rfl]
  · rw [World.cell?_setCell_other _ _ _ _ (by rintro ⟨⟩; exact e rfl), if_neg e]
    exact m.cell j hj
theorem Marks.grown {w w' : World} {h n : Nat} {f : Nat → Value} {row : Option Nat} (m : Marks w h n f) (hg : w.grownBy w' row) (hne : some h ≠ row) : Marks w' h n f := by
  have hb := hg.block h m.lt hne
  exact ⟨fun j hj => by rw [World.cell?_of_block (a := ⟨h, j, none⟩) hb]; exact m.cell j hj, fun j hj => by rw [World.frozen?_of_block (a := ⟨h, j, none⟩) hb]; exact m.free j hj, Nat.lt_of_lt_of_le m.lt hg.size⟩
/-- the length of a slice -/
def lenV : Value → Nat
  | .slice _ k _ => k
  | _ => 0
/-- which marks stand, out of the cells -/
def mOf (g : Value → Bool) (w : World) (h j : Nat) : Bool :=
  match w.cell? ⟨h, j, none⟩ with
  | some v => g v
  | none => false
theorem unm_congr {n : Nat} {M M' : Nat → Bool} (h : ∀ j, j < n → M j = M' j) : unm n M = unm n M' := by
  induction n with
  | zero => rfl
  | succ n ih => unfold unm; rw [ih (fun j hj => h j (by omega)), h n (by omega)]
theorem unm_of {g : Value → Bool} {w : World} {h n : Nat} {f : Nat → Value} {M : Nat → Bool} (m : Marks w h n f) (e : ∀ j, j < n → g (f j) = M j) : unm n (mOf g w h) = unm n M :=
  unm_congr fun j hj => by unfold mOf; rw [m.cell j hj]; exact e j hj
def isT : Value → Bool
  | .bool b => b
  | _ => false
theorem cell_two_new (w : World) (x y : Value) (t : TypeId) : ∀ j u, [x, y][j]? = some u → (w.alloc (.cells #[x, y] t)).cell? ((⟨w.heap.size, 0, none⟩ : Addr).add j) = some u := by
  intro j u hj
  match j, hj with
  | 0, hj =>
    simp at hj
    subst hj
    simp [Addr.add]
  | 1, hj =>
    simp at hj
    subst hj
    simp [Addr.add]
/-- the last one of a stack -/
theorem stack_last {st : List Nat} (h : 0 < st.length) : ∃ st' j, st = st' ++ [j] ∧ st'.length + 1 = st.length := by
  have hne : st ≠ [] := fun e => by rw [e] at h; exact absurd h (Nat.lt_irrefl _)
  exact ⟨st.dropLast, st.getLast hne, (List.dropLast_concat_getLast hne).symm, by rw [List.length_dropLast]; omega⟩
end Go.Proofs.YtobpecgecopdnaaDoor

/-
  Slices of integers: what a slice that is read holds, and a row that the call itself makes and fills. No program here. No condition.
-/
import Derived.Test.YtpolpihgclemnaaDoorText
import Derived.WalkSmall
namespace Go.Proofs.YtpolpihgclemnaaDoor
open Go.RowKit

/-- A slice that is read: empty, or a row of cells that lies below the heap's end. -/
def RowI (k : IntKind) (w : World) (a : Option Addr) (l : List Int) : Prop :=
  l = [] ∨ ∃ b off, a = some ⟨b, off, none⟩ ∧ b < w.heap.size ∧ ∀ i, i < l.length → w.cell? ⟨b, off + i, none⟩ = some (.int k (l.getD i 0))

/-- what a law's frame is told of a slice of integers that came in -/
def IsRow (k : IntKind) (w : World) (a : Option Addr) (len cap : Nat) (zs : List Int) : Prop :=
  (a = none ∧ len = 0 ∧ cap = 0 ∧ zs = []) ∨
  ∃ x, a = some x ∧ len ≤ cap ∧ cap ≤ maxLen ∧ zs.length = cap ∧ (∀ i, i < zs.length → w.cell? (x.add i) = some (.int k (zs.getD i 0))) ∧ ∀ n ∈ zs, (Lit.int k n).wf = true

theorem cell_lt {w : World} {b off : Nat} {v : Value} (h : w.cell? ⟨b, off, none⟩ = some v) : b < w.heap.size := by
  by_cases hb : b < w.heap.size
  · exact hb
  · exfalso
    have e : w.heap[b]? = none := by simp; omega
    simp [World.cell?, e] at h

theorem isRow_row {k : IntKind} {w : World} {a : Option Addr} {len cap : Nat} {zs : List Int} (h : IsRow k w a len cap zs) :
    RowI k w a (zs.take len) ∧ (zs.take len).length = len ∧ len ≤ maxLen ∧ ∀ n ∈ zs.take len, (Lit.int k n).wf = true := by
  rcases h with ⟨rfl, rfl, rfl, rfl⟩ | ⟨x, rfl, hl, hm, hz, hc, hw⟩
  · exact ⟨.inl rfl, rfl, Nat.zero_le _, fun n hn => by simp at hn⟩
  · have hlen : (zs.take len).length = len := by rw [List.length_take]; omega
    refine ⟨?_, hlen, by omega, fun n hn => hw n (List.mem_of_mem_take hn)⟩
    by_cases h0 : len = 0
    · left; subst h0; rfl
    · right
      obtain ⟨b, off, spot⟩ := x
      have hc0 := hc 0 (by omega)
      have hspot : spot = none := by simpa [Addr.add] using World.cell?_spot hc0
      subst hspot
      refine ⟨b, off, rfl, cell_lt (by simpa [Addr.add] using hc0), ?_⟩
      intro i hi
      have := hc i (by omega)
      rw [hlen] at hi
      rw [show (⟨b, off + i, none⟩ : Addr) = (⟨b, off, none⟩ : Addr).add i by simp [Addr.add], this]
      congr 2
      simp [List.getD_eq_getElem?_getD, hi]

theorem RowI.below {k : IntKind} {w w' : World} {a : Option Addr} {l : List Int} (h : RowI k w a l) (hb : Below w.heap.size w w') : RowI k w' a l := by
  rcases h with h | ⟨b, off, rfl, hlt, hc⟩
  · exact .inl h
  · exact .inr ⟨b, off, rfl, Nat.lt_of_lt_of_le hlt hb.size, fun i hi => by rw [hb.cell (p := ⟨b, off + i, none⟩) hlt]; exact hc i hi⟩

/-- A row g of n cells of the call's own that is being filled: cell j holds f j and may be written. -/
structure Fill (w wr : World) (g n : Nat) (f : Nat → Value) : Prop where
  below : Below w.heap.size w wr
  lo : w.heap.size ≤ g
  hi : g < wr.heap.size
  cell : ∀ j, j < n → wr.cell? ⟨g, j, none⟩ = some (f j)
  free : ∀ j, j < n → wr.frozen? ⟨g, j, none⟩ = false

theorem Fill.drew {w wr : World} {g n : Nat} {f : Nat → Value} (h : Fill w wr g n f) : Fill w wr.drew g n f :=
  ⟨h.below.drew, h.lo, h.hi, h.cell, h.free⟩

theorem Fill.store {w wr : World} {g n : Nat} {f : Nat → Value} (h : Fill w wr g n f) {j : Nat} (hj : j < n) (v : Value) :
    Fill w (wr.setCell ⟨g, j, none⟩ v) g n (fun i => if i = j then v else f i) := by
  refine ⟨h.below.setCell h.lo v, h.lo, by simpa [World.setCell] using h.hi, ?_, ?_⟩
  · intro i hi
    by_cases e : i = j
    · subst e
      simp only [if_true]
      exact World.cell?_setCell_same' _ _ _ (by rw [h.cell i hi]; rfl)
    · simp only [if_neg e]
      rw [World.cell?_setCell_other _ _ _ _ (by rintro ⟨⟩; exact e rfl)]
      exact h.cell i hi
  · intro i hi
    rw [World.frozen?_setCell]
    exact h.free i hi

theorem Fill.made (w w0 : World) (hb : Below w.heap.size w w0) (cs : Array Value) (T : TypeId) (f : Nat → Value) (hf : ∀ j, j < cs.size → cs[j]? = some (f j)) :
    Fill w (w0.alloc (.cells cs T)) w0.heap.size cs.size f := by
  refine ⟨hb.alloc hb.size _, hb.size, by simp, ?_, ?_⟩
  · intro j hj
    rw [← hf j hj]
    simp
  · intro j hj
    simp

theorem Fill.congr {w wr : World} {g n : Nat} {f f' : Nat → Value} (h : Fill w wr g n f) (hf : ∀ j, j < n → f j = f' j) : Fill w wr g n f' :=
  ⟨h.below, h.lo, h.hi, fun j hj => by rw [← hf j hj]; exact h.cell j hj, h.free⟩

theorem Fill.row {k : IntKind} {w wr : World} {g : Nat} {l : List Int} (h : Fill w wr g l.length (fun j => .int k (l.getD j 0))) : RowI k wr (some ⟨g, 0, none⟩) l :=
  .inr ⟨g, 0, rfl, h.hi, fun i hi => by rw [Nat.zero_add]; exact h.cell i hi⟩

/-- does a code point lie in one of the pairs -/
def inSet : List Int → Int → Bool
  | a :: b :: r, c => (decide (a ≤ c) && decide (c ≤ b)) || inSet r c
  | _, _ => false
def rxHas (l : List Int) (neg : Bool) (c : Int) : Bool := if inSet l c then !neg else neg

theorem drop_two (l : List Int) (k : Nat) (h : k + 1 < l.length) : l.drop k = l[k] :: l[k + 1] :: l.drop (k + 2) := by
  rw [List.drop_eq_getElem_cons (by omega), List.drop_eq_getElem_cons h]
theorem inSet_short (l : List Int) (c : Int) (h : l.length ≤ 1) : inSet l c = false := by
  match l, h with
  | [], _ => rfl
  | [_], _ => rfl
  | _ :: _ :: _, h => simp at h
theorem inSet_hit (l : List Int) (k : Nat) (c : Int) (h : k + 1 < l.length) (h1 : l[k] ≤ c) (h2 : c ≤ l[k + 1]) : inSet (l.drop k) c = true := by
  rw [drop_two l k h]; simp [inSet, h1, h2]
theorem inSet_miss (l : List Int) (k : Nat) (c : Int) (h : k + 1 < l.length) (h1 : ¬ (l[k] ≤ c ∧ c ≤ l[k + 1])) : inSet (l.drop k) c = inSet (l.drop (k + 2)) c := by
  rw [drop_two l k h]
  have : (decide (l[k] ≤ c) && decide (c ≤ l[k + 1])) = false := by
    rw [Bool.and_eq_false_iff]; simp only [decide_eq_false_iff_not]; omega
  show ((decide (l[k] ≤ c) && decide (c ≤ l[k + 1])) || _) = _
  rw [this]; rfl
end Go.Proofs.YtpolpihgclemnaaDoor

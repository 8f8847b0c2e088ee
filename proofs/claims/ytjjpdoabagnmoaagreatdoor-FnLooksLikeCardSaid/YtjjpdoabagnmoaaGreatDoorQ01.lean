/-
  Texts of this claim in one file, in build order: Text, Ints, Big, Owns, Cur, Draws, Val, Sums, Rounds. Each says ahead what it proves and under which conditions.
-/
import Derived.Test.YtjjpdoabagnmoaaGreatDoorRows
import Derived.WalkKit
import Derived.Lib.Hide
import Derived.Lib.Strings
import Derived.WalkSmall
import Derived.WalkLawsBesides
import Derived.WalkSpells
import Derived.BigQuiet
import Derived.Deep.Light
import Derived.ProofKit
import Derived.Deep.QuietTactic
import Derived.Deep.DeepMust
import Derived.Lib.Bytealg
import Derived.Lib.Repeat
import Derived.Lib.SmallJoins
/-
  Plain facts on texts as lists of bytes: digits, naturals' texts, and small lemmas on lists. No program here. No condition.
-/
namespace Go.Proofs.YtjjpdoabagnmoaaGreatDoor
open Go.RowKit

/-- the bytes of a string -/
abbrev bs (s : ByteArray) : List UInt8 := s.data.toList

theorem bs_length (s : ByteArray) : (bs s).length = s.size := by
  unfold bs; rw [Array.length_toList]; rfl
theorem bs_get (s : ByteArray) (k : Nat) (h : k < s.size) : (bs s)[k]'(by rw [bs_length]; exact h) = s[k] := by
  simp [bs]; rfl
theorem take_snoc (s : ByteArray) (k : Nat) (h : k < s.size) : (bs s).take (k + 1) = (bs s).take k ++ [s[k]] := by
  rw [List.take_succ_eq_append_getElem (by rw [bs_length]; exact h), bs_get s k h]
theorem take_all (s : ByteArray) : (bs s).take s.size = bs s := by
  rw [List.take_of_length_le]; rw [bs_length]; exact Nat.le_refl _
theorem bs_mem (s : ByteArray) (k : Nat) (h : k < s.size) : s[k] ∈ bs s := by
  rw [← bs_get s k h]; exact List.getElem_mem _

/-- a digit -/
def isDig (c : UInt8) : Bool := decide (48 ≤ (c.toNat : Int)) && decide ((c.toNat : Int) ≤ 57)
theorem isDig_iff (c : UInt8) : isDig c = true ↔ 48 ≤ (c.toNat : Int) ∧ (c.toNat : Int) ≤ 57 := by simp [isDig]
theorem isDig_no {c : UInt8} (h : (c.toNat : Int) < 48 ∨ 57 < (c.toNat : Int)) : isDig c = false := by
  simp [isDig]; omega

/-- a code point -/
def isPt (c : Int) : Bool := decide (1 ≤ c) && decide (c ≤ 1114111) && !(decide (55296 ≤ c) && decide (c ≤ 57343))

theorem isPt_iff (c : Int) : isPt c = true ↔ 1 ≤ c ∧ c ≤ 1114111 ∧ ¬ (55296 ≤ c ∧ c ≤ 57343) := by
  unfold isPt; simp; omega

/-- a natural's text: 1 to 600 digits, no 0 ahead but in "0" -/
def natOk (l : List UInt8) : Bool := l.all isDig && (decide (1 ≤ l.length) && decide (l.length ≤ 600) && (decide (l.length = 1) || l.head? != some 48))

theorem ret_bool {a b : Bool} (h : a = b) : Ending.returned (.bool a) = .returned (.bool b) := by rw [h]
theorem ret_int {k : IntKind} {a b : Int} (h : a = b) : Ending.returned (.int k a) = .returned (.int k b) := by rw [h]
theorem all_no {l : List UInt8} {p : UInt8 → Bool} {c : UInt8} (h : c ∈ l) (hc : p c = false) : l.all p = false := by
  rw [List.all_eq_false]; exact ⟨c, h, by simp [hc]⟩
theorem natOk_big {l : List UInt8} (h : 600 < l.length) : natOk l = false := by
  unfold natOk; rw [decide_eq_false (p := l.length ≤ 600) (by omega)]; simp
theorem natOk_empty {l : List UInt8} (h : l.length < 1) : natOk l = false := by
  unfold natOk; rw [decide_eq_false (p := 1 ≤ l.length) (by omega)]; simp
theorem natOk_nz {c : UInt8} {l : List UInt8} (ha : (c :: l).all isDig = true) (h2 : (c :: l).length ≤ 600) (h : ¬ (c.toNat : Int) = 48) : natOk (c :: l) = true := by
  have hc : ¬ c = 48 := fun e => h (by rw [e]; rfl)
  unfold natOk; rw [ha, decide_eq_true h2]; simp [hc]
theorem natOk_z {c : UInt8} {l : List UInt8} (ha : (c :: l).all isDig = true) (h2 : (c :: l).length ≤ 600) (h : (c.toNat : Int) = 48) : natOk (c :: l) = ((c :: l) == [48]) := by
  have hc : c = 48 := UInt8.toNat_inj.1 (by have e : (48 : UInt8).toNat = 48 := rfl; omega)
  subst hc
  unfold natOk; rw [ha, decide_eq_true h2]
  cases l with
  | nil => simp
  | cons d l => simp
theorem bs_drop (s : ByteArray) (k : Nat) (h : k < s.size) : (bs s).drop k = s[k] :: (bs s).drop (k + 1) := by
  rw [← bs_get s k h]; exact List.drop_eq_getElem_cons _
theorem bs_cons (s : ByteArray) (h : 0 < s.size) : ∃ l, bs s = s[0] :: l := ⟨_, bs_drop s 0 h⟩
theorem u8_lt (c : UInt8) : (c.toNat : Int) < 256 := by have := c.toNat_lt; omega
theorem wrap64_u8 (c : UInt8) : wrap64 (c.toNat : Int) = (c.toNat : Int) := IntWalk.wrap64_in _ (by have := u8_lt c; constructor <;> omega)
theorem bs_head (s : ByteArray) (h : 0 < s.size) : (bs s).head? = some s[0] := by
  obtain ⟨l, hl⟩ := bs_cons s h; rw [hl]; rfl
theorem bs_last (s : ByteArray) (h : 0 < s.size) : (bs s).getLast? = some (s[s.size - 1]'(by omega)) := by
  rw [← bs_get s (s.size - 1) (by omega), List.getLast?_eq_getElem?]
  have e : (bs s).length - 1 = s.size - 1 := by rw [bs_length]
  rw [e, List.getElem?_eq_getElem]
theorem u8_eq {c : UInt8} {d : UInt8} (h : (c.toNat : Int) = (d.toNat : Int)) : c = d := UInt8.toNat_inj.1 (by omega)
theorem u8_48 {c : UInt8} (h : (c.toNat : Int) = 48) : c = 48 := u8_eq h
theorem u8_n48 {c : UInt8} (h : ¬ (c.toNat : Int) = 48) : ¬ c = 48 := fun e => h (by rw [e]; rfl)
theorem bs_empty {s : ByteArray} (h : s.size = 0) : bs s = [] := List.eq_nil_of_length_eq_zero (by rw [bs_length]; exact h)
theorem isEmpty_yes {s : ByteArray} (h : s.size = 0) : s.toList.isEmpty = true := by rw [Lib.toList_data]; show (bs s).isEmpty = true; rw [bs_empty h]; rfl
theorem isEmpty_no {s : ByteArray} (h : 0 < s.size) : s.toList.isEmpty = false := by
  rw [Lib.toList_data]; show (bs s).isEmpty = false; obtain ⟨l, hl⟩ := bs_cons s h; rw [hl]; rfl
theorem ne_nil {s : ByteArray} (h : 0 < s.size) : ¬ bs s = [] := by obtain ⟨l, hl⟩ := bs_cons s h; rw [hl]; simp
/-- what lies below B reads in w1 as in W -/
theorem bcell {B : Nat} {W w1 : World} (hb : Below B W w1) : (∀ b o, b < B → w1.cell? ⟨b, o, none⟩ = W.cell? ⟨b, o, none⟩) ∧ (∀ b o, b < B → w1.frozen? ⟨b, o, none⟩ = W.frozen? ⟨b, o, none⟩) :=
  ⟨fun b o h => hb.cell (p := ⟨b, o, none⟩) h, fun b o h => hb.frozen (p := ⟨b, o, none⟩) h⟩
end Go.Proofs.YtjjpdoabagnmoaaGreatDoor
/-
  Slices of integers: what a slice that is read holds, and a row that the call itself makes and fills. No program here. No condition.
-/
namespace Go.Proofs.YtjjpdoabagnmoaaGreatDoor
open Go.RowKit

/-- A slice that is read: empty, or a row of cells that lies below the heap's end. -/
def RowI (k : IntKind) (w : World) (a : Option Addr) (l : List Int) : Prop :=
  l = [] ∨ ∃ b off, a = some ⟨b, off, none⟩ ∧ b < w.heap.size ∧ ∀ i, i < l.length → w.cell? ⟨b, off + i, none⟩ = some (.int k (l.getD i 0))

/-- what a law's frame is told of a slice of integers that came in -/
def IsRow (k : IntKind) (w : World) (a : Option Addr) (len cap : Nat) (zs : List Int) : Prop :=
  (a = none ∧ len = 0 ∧ cap = 0 ∧ zs = []) ∨
  ∃ x, a = some x ∧ len ≤ cap ∧ cap ≤ maxLen ∧ zs.length = cap ∧ (∀ i, i < zs.length → w.cell? (x.add i) = some (.int k (zs.getD i 0))) ∧ ∀ n ∈ zs, (Lit.int k n).wf = true

theorem cell_lt {w : World} {b off : Nat} {v : Value} (h : w.cell? ⟨b, off, none⟩ = some v) : b < w.heap.size := by
  by_cases hb : b < w.heap.size
  · exact hb
  · exfalso
    have e : w.heap[b]? = none := by simp; omega
    simp [World.cell?, e] at h

theorem isRow_row {k : IntKind} {w : World} {a : Option Addr} {len cap : Nat} {zs : List Int} (h : IsRow k w a len cap zs) :
    RowI k w a (zs.take len) ∧ (zs.take len).length = len ∧ len ≤ maxLen ∧ ∀ n ∈ zs.take len, (Lit.int k n).wf = true := by
  rcases h with ⟨rfl, rfl, rfl, rfl⟩ | ⟨x, rfl, hl, hm, hz, hc, hw⟩
  · exact ⟨.inl rfl, rfl, Nat.zero_le _, fun n hn => by simp at hn⟩
  · have hlen : (zs.take len).length = len := by rw [List.length_take]; omega
    refine ⟨?_, hlen, by omega, fun n hn => hw n (List.mem_of_mem_take hn)⟩
    by_cases h0 : len = 0
    · left; subst h0; rfl
    · right
      obtain ⟨b, off, spot⟩ := x
      have hc0 := hc 0 (by omega)
      have hspot : spot = none := by simpa [Addr.add] using World.cell?_spot hc0
      subst hspot
      refine ⟨b, off, rfl, cell_lt (by simpa [Addr.add] using hc0), ?_⟩
      intro i hi
      have := hc i (by omega)
      rw [hlen] at hi
      rw [show (⟨b, off + i, none⟩ : Addr) = (⟨b, off, none⟩ : Addr).add i by simp [Addr.add], this]
      congr 2
      simp [List.getD_eq_getElem?_getD, hi]

theorem RowI.below {k : IntKind} {w w' : World} {a : Option Addr} {l : List Int} (h : RowI k w a l) (hb : Below w.heap.size w w') : RowI k w' a l := by
  rcases h with h | ⟨b, off, rfl, hlt, hc⟩
  · exact .inl h
  · exact .inr ⟨b, off, rfl, Nat.lt_of_lt_of_le hlt hb.size, fun i hi => by rw [hb.cell (p := ⟨b, off + i, none⟩) hlt]; exact hc i hi⟩

/-- A row g of n cells of the call's own that is being filled: cell j holds f j and may be written. -/
structure Fill (w wr : World) (g n : Nat) (f : Nat → Value) : Prop where
  below : Below w.heap.size w wr
  lo : w.heap.size ≤ g
  hi : g < wr.heap.size
  cell : ∀ j, j < n → wr.cell? ⟨g, j, none⟩ = some (f j)
  free : ∀ j, j < n → wr.frozen? ⟨g, j, none⟩ = false

theorem Fill.drew {w wr : World} {g n : Nat} {f : Nat → Value} (h : Fill w wr g n f) : Fill w wr.drew g n f :=
  ⟨h.below.drew, h.lo, h.hi, h.cell, h.free⟩

theorem Fill.store {w wr : World} {g n : Nat} {f : Nat → Value} (h : Fill w wr g n f) {j : Nat} (hj : j < n) (v : Value) :
    Fill w (wr.setCell ⟨g, j, none⟩ v) g n (fun i => if i = j then v else f i) := by
  refine ⟨h.below.setCell h.lo v, h.lo, by simpa [World.setCell] using h.hi, ?_, ?_⟩
  · intro i hi
    by_cases e : i = j
    · subst e
      simp only [if_true]
      exact World.cell?_setCell_same' _ _ _ (by rw [h.cell i hi]; rfl)
    · simp only [if_neg e]
      rw [World.cell?_setCell_other _ _ _ _ (by rintro ⟨⟩; exact e rfl)]
      exact h.cell i hi
  · intro i hi
    rw [World.frozen?_setCell]
    exact h.free i hi

theorem Fill.made (w w0 : World) (hb : Below w.heap.size w w0) (cs : Array Value) (T : TypeId) (f : Nat → Value) (hf : ∀ j, j < cs.size → cs[j]? = some (f j)) :
    Fill w (w0.alloc (.cells cs T)) w0.heap.size cs.size f := by
  refine ⟨hb.alloc hb.size _, hb.size, by simp, ?_, ?_⟩
  · intro j hj
    rw [← hf j hj]
    simp
  · intro j hj
    simp

theorem Fill.congr {w wr : World} {g n : Nat} {f f' : Nat → Value} (h : Fill w wr g n f) (hf : ∀ j, j < n → f j = f' j) : Fill w wr g n f' :=
  ⟨h.below, h.lo, h.hi, fun j hj => by rw [← hf j hj]; exact h.cell j hj, h.free⟩

theorem Fill.row {k : IntKind} {w wr : World} {g : Nat} {l : List Int} (h : Fill w wr g l.length (fun j => .int k (l.getD j 0))) : RowI k wr (some ⟨g, 0, none⟩) l :=
  .inr ⟨g, 0, rfl, h.hi, fun i hi => by rw [Nat.zero_add]; exact h.cell i hi⟩

/-- does a code point lie in one of the pairs -/
def inSet : List Int → Int → Bool
  | a :: b :: r, c => (decide (a ≤ c) && decide (c ≤ b)) || inSet r c
  | _, _ => false
def rxHas (l : List Int) (neg : Bool) (c : Int) : Bool := if inSet l c then !neg else neg

theorem drop_two (l : List Int) (k : Nat) (h : k + 1 < l.length) : l.drop k = l[k] :: l[k + 1] :: l.drop (k + 2) := by
  rw [List.drop_eq_getElem_cons (by omega), List.drop_eq_getElem_cons h]
theorem inSet_short (l : List Int) (c : Int) (h : l.length ≤ 1) : inSet l c = false := by
  match l, h with
  | [], _ => rfl
  | [_], _ => rfl
  | _ :: _ :: _, h => simp at h
theorem inSet_hit (l : List Int) (k : Nat) (c : Int) (h : k + 1 < l.length) (h1 : l[k] ≤ c) (h2 : c ≤ l[k + 1]) : inSet (l.drop k) c = true := by
  rw [drop_two l k h]; simp [inSet, h1, h2]
theorem inSet_miss (l : List Int) (k : Nat) (c : Int) (h : k + 1 < l.length) (h1 : ¬ (l[k] ≤ c ∧ c ≤ l[k + 1])) : inSet (l.drop k) c = inSet (l.drop (k + 2)) c := by
  rw [drop_two l k h]
  have : (decide (l[k] ≤ c) && decide (c ≤ l[k + 1])) = false := by
    rw [Bool.and_eq_false_iff]; simp only [decide_eq_false_iff_not]; omega
  show ((decide (l[k] ≤ c) && decide (c ≤ l[k + 1])) || _) = _
  rw [this]; rfl
end Go.Proofs.YtjjpdoabagnmoaaGreatDoor
/-
  The contract of the laws' own bound on a code. Condition: a row no longer than memory holds.
-/
namespace Go.Proofs.YtjjpdoabagnmoaaGreatDoor
open Go.RowKit
set_option linter.unusedVariables false
set_option linter.unusedSimpArgs false

theorem big_any (a : Option Addr) (len cap : Nat) (w : World) (hlen : len ≤ maxLen) :
    Calls Tryz.prog 13 #[.slice a len cap] w fun e w' => e = .returned (.bool (decide (1048576 < len))) ∧ w' = w := by
  unfold maxLen at hlen
  by_cases h : 1048576 < len
  · have h' : (1048576 : Int) < (len : Int) := by omega
    rw [decide_eq_true h]
    go_enter Tryz.func13, Tryz.ntmps13
    go_wp2
    go_ret
    exact ⟨rfl, rfl⟩
  · have h' : decide ((1048576 : Int) < (len : Int)) = false := decide_eq_false (by omega)
    rw [decide_eq_false h]
    go_enter Tryz.func13, Tryz.ntmps13
    go_wp2
    go_ret
    exact ⟨rfl, rfl⟩
end Go.Proofs.YtjjpdoabagnmoaaGreatDoor
/-
  Rows of the call's own: what a walk says of them. No program's function here. No condition.
-/
namespace Go.Proofs.YtjjpdoabagnmoaaGreatDoor
open Go.RowKit

theorem ownsRow_none (w : World) (b : Nat) (e : TypeId) : w.ownsRow b e 1 (.slice none 0 0) 0 [] := ⟨rfl, .inl ⟨rfl, rfl⟩⟩
theorem ownsRow_empty (w : World) (b : Nat) (e : TypeId) (hb : b ≤ w.heap.size) : (w.alloc (.cells #[] e)).ownsRow b e 1 (.slice (some ⟨w.heap.size, 0, none⟩) 0 0) 0 [] :=
  ⟨rfl, .inr ⟨w.heap.size, 0, #[], rfl, hb, (MapKept.heap_alloc w _).1, Nat.le_refl _, Nat.zero_le _, rfl, rfl⟩⟩
theorem ownBlock_lo {w : World} {b : Nat} {e : TypeId} {v : Value} {n : Nat} {xs : List Value} (h : w.ownsRow b e 1 v n xs) : ∀ k, v.ownBlock = some k → b ≤ k := fun k hk => (h.lt k hk).1

/-- a row of the call's own stands behind a call that writes nothing that was there -/
theorem ownsRow_below {w w' : World} {b : Nat} {e : TypeId} {v : Value} {n : Nat} {xs : List Value} (h : w.ownsRow b e 1 v n xs) (hb : Below w.heap.size w w') : w'.ownsRow b e 1 v n xs :=
  h.kept (row := none) ⟨hb.os, hb.tape, hb.output, hb.size, fun k hk _ => hb.block k hk⟩ (by cases v.ownBlock <;> simp)
theorem ownsRow_base {w : World} {b b' : Nat} {e : TypeId} {v : Value} {n : Nat} {xs : List Value} (h : w.ownsRow b e 1 v n xs) (hb : b' ≤ b) : w.ownsRow b' e 1 v n xs := by
  obtain ⟨h1, h2⟩ := h
  refine ⟨h1, ?_⟩
  rcases h2 with h2 | ⟨g, cap, cur, r1, r2, r3⟩
  · exact .inl h2
  · exact .inr ⟨g, cap, cur, r1, by omega, r3⟩

theorem ownsRow_slice {w : World} {b : Nat} {e : TypeId} {v : Value} {n : Nat} {xs : List Value} (h : w.ownsRow b e 1 v n xs) : ∃ a cap, v = .slice a n cap := by
  rcases h.2 with ⟨rfl, rfl⟩ | ⟨g, cap, cur, rfl, _⟩
  · exact ⟨none, 0, rfl⟩
  · exact ⟨_, cap, rfl⟩
end Go.Proofs.YtjjpdoabagnmoaaGreatDoor
/-
  The contracts of the cursor that the draws read their code by: what it hands out lies in range; nothing but its own block is written. Conditions: the cursor stands at a block of its own, the code below it.
-/
namespace Go.Proofs.YtjjpdoabagnmoaaGreatDoor
open Go.RowKit
set_option linter.unusedVariables false
set_option linter.unusedSimpArgs false

/-- nothing but block p may have turned -/
structure Only (p : Nat) (w w' : World) : Prop where
  os : w'.os = w.os
  tape : w'.tape = w.tape
  output : w'.output = w.output
  size : w'.heap.size = w.heap.size
  block : ∀ k, k ≠ p → w'.heap[k]? = w.heap[k]?
theorem Only.refl (p : Nat) (w : World) : Only p w w := ⟨rfl, rfl, rfl, rfl, fun _ _ => rfl⟩
theorem Only.trans {p : Nat} {a b c : World} (h : Only p a b) (k : Only p b c) : Only p a c :=
  ⟨k.os.trans h.os, k.tape.trans h.tape, k.output.trans h.output, k.size.trans h.size, fun i hi => (k.block i hi).trans (h.block i hi)⟩
theorem Only.below {p B : Nat} {w w' : World} (h : Only p w w') (hB : B ≤ p) : Below B w w' :=
  ⟨h.os, h.tape, h.output, Nat.le_of_eq h.size.symm, fun k hk => h.block k (by omega)⟩
theorem Only.drewN {p : Nat} {w w' : World} (h : Only p w w') (n : Nat) : Only p w (w'.drewN n) := ⟨h.os, h.tape, h.output, h.size, h.block⟩
theorem Only.setCell {p : Nat} {w w' : World} (h : Only p w w') (o : Nat) (v : Value) : Only p w (w'.setCell ⟨p, o, none⟩ v) := by
  refine ⟨h.os, h.tape, h.output, by simpa [World.setCell] using h.size, fun k hk => ?_⟩
  rw [← h.block k hk]
  simp [World.setCell, Array.getElem?_modify]
  intro e; exact absurd e.symm hk
theorem Only.cell {p : Nat} {w w' : World} (h : Only p w w') {b o : Nat} (hb : b ≠ p) : w'.cell? ⟨b, o, none⟩ = w.cell? ⟨b, o, none⟩ := by
  unfold World.cell?; rw [h.block b hb]
theorem Only.frozen {p : Nat} {w w' : World} (h : Only p w w') {b o : Nat} (hb : b ≠ p) : w'.frozen? ⟨b, o, none⟩ = w.frozen? ⟨b, o, none⟩ := by
  unfold World.frozen?; rw [h.block b hb]

/-- a cursor at block p over a row of len bytes -/
structure Cur (w : World) (p : Nat) (a : Option Addr) (len cap at' seed : Nat) : Prop where
  c0 : w.cell? ⟨p, 0, none⟩ = some (.slice a len cap)
  c1 : w.cell? ⟨p, 1, none⟩ = some (.int .i64 (at' : Int))
  c2 : w.cell? ⟨p, 2, none⟩ = some (.int .i64 (seed : Int))
  f1 : w.frozen? ⟨p, 1, none⟩ = false
  f2 : w.frozen? ⟨p, 2, none⟩ = false
  row : len = 0 ∨ ∃ b off, a = some ⟨b, off, none⟩ ∧ b < p ∧ ∀ i, i < len → ∃ c : Nat, c < 256 ∧ w.cell? ⟨b, off + i, none⟩ = some (.int .u8 (c : Int))
  seed_lt : seed < 70000
  len_le : len ≤ 1099511627776

theorem Cur.drewN {w : World} {p : Nat} {a : Option Addr} {len cap at' seed : Nat} (h : Cur w p a len cap at' seed) (n : Nat) : Cur (w.drewN n) p a len cap at' seed :=
  ⟨h.c0, h.c1, h.c2, h.f1, h.f2, h.row, h.seed_lt, h.len_le⟩
theorem Cur.move {w : World} {p : Nat} {a : Option Addr} {len cap at' seed : Nat} (h : Cur w p a len cap at' seed) (x : Nat) : Cur (w.setCell ⟨p, 1, none⟩ (.int .i64 (x : Int))) p a len cap x seed := by
  refine ⟨?_, ?_, ?_, ?_, ?_, ?_, h.seed_lt, h.len_le⟩
  · rw [World.cell?_setCell_other _ _ _ _ (by rintro ⟨⟩)]; exact h.c0
  · exact World.cell?_setCell_same' _ _ _ (by rw [h.c1]; rfl)
  · rw [World.cell?_setCell_other _ _ _ _ (by rintro ⟨⟩)]; exact h.c2
  · rw [World.frozen?_setCell]; exact h.f1
  · rw [World.frozen?_setCell]; exact h.f2
  · rcases h.row with h0 | ⟨b, off, r1, r2, r3⟩
    · exact .inl h0
    · refine .inr ⟨b, off, r1, r2, fun i hi => ?_⟩
      obtain ⟨c, hc, e⟩ := r3 i hi
      exact ⟨c, hc, by rw [World.cell?_setCell_other _ _ _ _ (by intro e; have e' := congrArg Addr.block e; simp at e'; omega)]; exact e⟩
theorem Cur.sow {w : World} {p : Nat} {a : Option Addr} {len cap at' seed : Nat} (h : Cur w p a len cap at' seed) (x : Nat) (hx : x < 70000) : Cur (w.setCell ⟨p, 2, none⟩ (.int .i64 (x : Int))) p a len cap at' x := by
  refine ⟨?_, ?_, ?_, ?_, ?_, ?_, hx, h.len_le⟩
  · rw [World.cell?_setCell_other _ _ _ _ (by rintro ⟨⟩)]; exact h.c0
  · rw [World.cell?_setCell_other _ _ _ _ (by rintro ⟨⟩)]; exact h.c1
  · exact World.cell?_setCell_same' _ _ _ (by rw [h.c2]; rfl)
  · rw [World.frozen?_setCell]; exact h.f1
  · rw [World.frozen?_setCell]; exact h.f2
  · rcases h.row with h0 | ⟨b, off, r1, r2, r3⟩
    · exact .inl h0
    · refine .inr ⟨b, off, r1, r2, fun i hi => ?_⟩
      obtain ⟨c, hc, e⟩ := r3 i hi
      exact ⟨c, hc, by rw [World.cell?_setCell_other _ _ _ _ (by intro e; have e' := congrArg Addr.block e; simp at e'; omega)]; exact e⟩
/-- a call that leaves all that stood below leaves the cursor -/
theorem Cur.below {w w' : World} {p B : Nat} {a : Option Addr} {len cap at' seed : Nat} (h : Cur w p a len cap at' seed) (hb : Below B w w') (hp : p < B) : Cur w' p a len cap at' seed := by
  refine ⟨?_, ?_, ?_, ?_, ?_, ?_, h.seed_lt, h.len_le⟩
  · rw [hb.cell (p := ⟨p, 0, none⟩) hp]; exact h.c0
  · rw [hb.cell (p := ⟨p, 1, none⟩) hp]; exact h.c1
  · rw [hb.cell (p := ⟨p, 2, none⟩) hp]; exact h.c2
  · rw [hb.frozen (p := ⟨p, 1, none⟩) hp]; exact h.f1
  · rw [hb.frozen (p := ⟨p, 2, none⟩) hp]; exact h.f2
  · rcases h.row with h0 | ⟨b, off, r1, r2, r3⟩
    · exact .inl h0
    · refine .inr ⟨b, off, r1, r2, fun i hi => ?_⟩
      obtain ⟨c, hc, e⟩ := r3 i hi
      exact ⟨c, hc, by rw [hb.cell (p := ⟨b, off + i, none⟩) (Nat.lt_trans r2 hp)]; exact e⟩

theorem wrap_seventh (s : Nat) (h : s ≤ 70000) : ∃ q : Nat, q ≤ 70000 ∧ IntKind.i64.wrap ((s : Int) / 7) = (q : Int) :=
  ⟨s / 7, by omega, by rw [IntWalk.i64_in _ (by omega)]; omega⟩
theorem wrap_sum (s c : Nat) (h : s ≤ 70000) (hc : c < 256) : ∃ q : Nat, q ≤ 80000 ∧ IntKind.i64.wrap ((s : Int) + (c : Int)) = (q : Int) :=
  ⟨s + c, by omega, by rw [IntWalk.i64_in _ (by omega)]; omega⟩
/-- what a pick leaves -/
def Picked (p : Nat) (a : Option Addr) (len cap at' n : Nat) (w : World) (e : Ending) (w' : World) : Prop :=
  ∃ x at2 seed2 : Nat, e = .returned (.int .i64 (x : Int)) ∧ (x = 0 ∨ x < n) ∧ at2 ≤ at' + 1 ∧ Cur w' p a len cap at2 seed2 ∧ Only p w w'

theorem pick_any (p len cap at' seed n : Nat) (a : Option Addr) (w : World) (h : Cur w p a len cap at' seed) (hat : at' ≤ 1000000000000) (hn : n ≤ 1000000000000) :
    Calls Tryz.prog 66 #[.pointer (some ⟨p, 0, none⟩), .int .i64 (n : Int)] w (Picked p a len cap at' n w) := by
  have c0 := h.c0
  have c1 := h.c1
  have c2 := h.c2
  have f1 := h.f1
  have f2 := h.f2
  have hlen := h.len_le
  have hsd := h.seed_lt
  have HC := Lib.hid h
  by_cases hn2 : n < 2
  · clear h
    go_enter Tryz.func66, Tryz.ntmps66
    go_wp2
    go_ret
    exact ⟨0, at', seed, rfl, .inl rfl, by omega, HC.out, Only.refl _ _⟩
  · by_cases hlt : at' < len
    · have hrow := h.row
      obtain ⟨b, off, ha, hb, hr⟩ : ∃ b off, a = some ⟨b, off, none⟩ ∧ b < p ∧ ∀ i, i < len → ∃ c : Nat, c < 256 ∧ w.cell? ⟨b, off + i, none⟩ = some (.int .u8 (c : Int)) := by
        rcases hrow with h0 | h1
        · omega
        · exact h1
      obtain ⟨c, hc, hcell⟩ := hr at' hlt
      subst ha
      have hlt' : (at' : Int) < (len : Int) := by omega
      have hcw : wrap64 (c : Int) = (c : Int) := IntWalk.wrap64_in _ (by omega)
      clear hr hrow h
      go_enter Tryz.func66, Tryz.ntmps66
      go_wp2_with fail
      go_quiet (fail)
      go_wp2_with fail
      go_quiet (fail)
      go_wp2
      go_ret
      exact ⟨c % n, at' + 1, seed, rfl, .inr (Nat.mod_lt _ (by omega)), Nat.le_refl _, (HC.out.drewN _).move (at' + 1), ((Only.refl p w).drewN _).setCell _ _⟩
    · have hge : decide ((at' : Int) < (len : Int)) = false := decide_eq_false (by omega)
      obtain ⟨sd, hsd1⟩ : ∃ sd, (seed * 1103 + 12345) % 65521 = sd := ⟨_, rfl⟩
      have hsv : ((seed : Int) * 1103 + 12345) % 65521 = (sd : Int) := by omega
      have hsd2 : sd < 65521 := by omega
      clear hsd1 h
      by_cases h0 : len = 0
      · have hz : decide ((0 : Int) < (len : Int)) = false := decide_eq_false (by omega)
        go_enter Tryz.func66, Tryz.ntmps66
        go_wp2_with fail
        go_quiet (fail)
        go_wp2
        go_ret
        exact ⟨0, at' + 1, sd, rfl, .inl rfl, Nat.le_refl _, ((HC.out.drewN _).sow sd (by omega)).move (at' + 1), (((Only.refl p w).drewN _).setCell _ _).setCell _ _⟩
      · obtain ⟨b, off, ha, hb, hr⟩ : ∃ b off, a = some ⟨b, off, none⟩ ∧ b < p ∧ ∀ i, i < len → ∃ c : Nat, c < 256 ∧ w.cell? ⟨b, off + i, none⟩ = some (.int .u8 (c : Int)) := by
          rcases HC.out.row with h0' | h1
          · omega
          · exact h1
        subst ha
        obtain ⟨i, hi⟩ : ∃ i, at' % len = i := ⟨_, rfl⟩
        have hilt : i < len := by rw [← hi]; exact Nat.mod_lt _ (by omega)
        have hai : (at' : Int) % (len : Int) = (i : Int) := by rw [← hi]; exact (Int.natCast_emod at' len).symm
        have hat' : (at' : Int).tmod (len : Int) = (i : Int) := by rw [Int.tmod_eq_emod_of_nonneg (by omega)]; exact hai
        obtain ⟨c, hc, hcell⟩ := hr i hilt
        have HCE := Lib.hid hcell
        obtain ⟨s7, hs7, hw1⟩ := wrap_seventh sd (by omega)
        obtain ⟨x7, hx8, hw2⟩ := wrap_sum s7 c (by omega) hc
        have hz : (0 : Int) < (len : Int) := by omega
        have hi1 : (i : Int) < (len : Int) := by omega
        clear hr hi hcell
        go_enter Tryz.func66, Tryz.ntmps66
        go_wp2_with fail
        go_quiet (fail)
        go_wp2_with fail
        have HC2 := Lib.hid ((HC.out.drewN nq).sow sd (by omega))
        have HO2 := Lib.hid (((Only.refl p w).drewN nq).setCell 2 (.int .i64 (sd : Int)))
        clear c0 c1 c2 f1 f2
        generalize (w.drewN nq).setCell ⟨p, 2, none⟩ (.int .i64 (sd : Int)) = w1 at HC2 HO2 ⊢
        have c0 := HC2.out.c0
        have c1 := HC2.out.c1
        have c2 := HC2.out.c2
        have f1 := HC2.out.f1
        have f2 := HC2.out.f2
        have hcell2 : w1.cell? ⟨b, off + i, none⟩ = some (.int .u8 (c : Int)) := by rw [HO2.out.cell (by omega)]; exact HCE.out
        go_quiet (fail)
        go_wp2
        go_ret
        exact ⟨x7 % n, at' + 1, sd, rfl, .inr (Nat.mod_lt _ (by omega)), Nat.le_refl _, (HC2.out.drewN _).move (at' + 1), (HO2.out.drewN _).setCell _ _⟩
end Go.Proofs.YtjjpdoabagnmoaaGreatDoor
/-
  The contracts of what the draws draw: a size, a number, a natural: each returns something in range and leaves what lies below the cursor. Conditions: the cursor stands at a block of its own, the code below it.
-/
namespace Go.Proofs.YtjjpdoabagnmoaaGreatDoor
open Go.RowKit
set_option linter.unusedVariables false
set_option linter.unusedSimpArgs false

theorem size_any (p len cap at' seed n : Nat) (a : Option Addr) (w : World) (h : Cur w p a len cap at' seed) (hat : at' ≤ 100000000000) (hn : n ≤ 100000) :
    Calls Tryz.prog 65 #[.pointer (some ⟨p, 0, none⟩), .int .i64 (n : Int)] w fun e w' => ∃ x at2 seed2 : Nat, e = .returned (.int .i64 (x : Int)) ∧ x ≤ n ∧ at2 ≤ at' + 1 ∧ Cur w' p a len cap at2 seed2 ∧ Only p w w' := by
  have c0 := h.c0
  have hlen := h.len_le
  have HC := Lib.hid h
  clear h
  by_cases hk : n < 1 + len / 10
  · have hk' : (n : Int) < 1 + (len : Int) / 10 := by omega
    go_enter Tryz.func65, Tryz.ntmps65
    go_wp2_with fail
    refine (pick_any p len cap at' seed (n + 1) a _ HC.out (by omega) (by omega)).mono ?_
    rintro e w1 ⟨x, at2, seed2, rfl, hx, hat2, hc2, ho2⟩
    have H := Lib.hid (And.intro hc2 ho2)
    clear hc2 ho2
    go_wp2
    go_ret
    exact ⟨x, at2, seed2, rfl, by omega, hat2, H.out.1, H.out.2⟩
  · have hk' : ¬ ((n : Int) < 1 + (len : Int) / 10) := by omega
    obtain ⟨q, hq⟩ : ∃ q, 1 + len / 10 = q := ⟨_, rfl⟩
    have hq' : 1 + (len : Int) / 10 = (q : Int) := by omega
    have hqn : q ≤ n := by omega
    have hk2 : decide ((n : Int) < (q : Int)) = false := decide_eq_false (by omega)
    clear hk hk' hq
    go_enter Tryz.func65, Tryz.ntmps65
    go_wp2_with fail
    refine (pick_any p len cap at' seed (q + 1) a _ HC.out (by omega) (by omega)).mono ?_
    rintro e w1 ⟨x, at2, seed2, rfl, hx, hat2, hc2, ho2⟩
    have H := Lib.hid (And.intro hc2 ho2)
    clear hc2 ho2
    go_wp2
    go_ret
    exact ⟨x, at2, seed2, rfl, by omega, hat2, H.out.1, H.out.2⟩

theorem wf_u8 {x : Int} (h : (Lit.int .u8 x).wf = true) : 0 ≤ x ∧ x ≤ 255 := by
  simpa [Lit.wf, IntKind.min, IntKind.max, IntKind.signed, IntKind.bits] using h
/-- the cursor that a code is opened by -/
theorem open_any (a : Option Addr) (len cap : Nat) (z : List Int) (w : World) (hr : IsRow .u8 w a len cap z) (hlen : len ≤ 1048576) :
    Calls Tryz.prog 35 #[.slice a len cap] w fun e w' => ∃ p seed, e = .returned (.pointer (some ⟨p, 0, none⟩)) ∧ w.heap.size ≤ p ∧ p < w'.heap.size ∧ Cur w' p a len cap 0 seed ∧ Below w.heap.size w w' := by
  obtain ⟨hrow, hl, hm, hz⟩ := isRow_row hr
  have HR := Lib.hid (And.intro hrow (And.intro hl hz))
  clear hrow hl hz hr hm
  go_enter Tryz.func35, Tryz.ntmps35
  go_wp2
  go_ret
  refine ⟨w.heap.size, 17 + len % 1000, rfl, Nat.le_refl _, by simp, ⟨by simp, by simp, by simp, by simp, by simp, ?_, by omega, by omega⟩, (Below.refl _ _).alloc (Nat.le_refl _) _⟩
  obtain ⟨hrow, hl, hz⟩ := HR.out
  rcases hrow with h0 | ⟨b, off, ha, hb, hc⟩
  · left; rw [h0] at hl; simpa using hl.symm
  · right
    refine ⟨b, off, ha, hb, fun i hi => ?_⟩
    have e := hc i (by omega)
    have hm : (z.take len).getD i 0 ∈ z.take len := by
      rw [List.getD_eq_getElem?_getD, List.getElem?_eq_getElem (by omega)]
      exact List.getElem_mem _
    obtain ⟨w1, w2⟩ := wf_u8 (hz _ hm)
    refine ⟨((z.take len).getD i 0).toNat, by omega, ?_⟩
    rw [Below.cell ((Below.refl w.heap.size w).alloc (Nat.le_refl _) _) (p := ⟨b, off + i, none⟩) hb, e]
    congr 2
    omega

theorem new_cell (w : World) (cs : Array Value) (e : TypeId) (j : Nat) : (w.alloc (.cells cs e)).cell? ⟨w.heap.size, j, none⟩ = cs[j]? := by simp

end Go.Proofs.YtjjpdoabagnmoaaGreatDoor
/-
  Plain facts on naturals as rows of digits: a row's number (val), a number's row (dec), a row of so many places (digs). No program here. No condition.
-/
namespace Go.Proofs.YtjjpdoabagnmoaaGreatDoor

/-- the number of a row of digits -/
def val (l : List UInt8) : Nat := l.foldl (fun a c => 10 * a + (c.toNat - 48)) 0

theorem val_nil : val [] = 0 := rfl
theorem val_snoc (l : List UInt8) (c : UInt8) : val (l ++ [c]) = 10 * val l + (c.toNat - 48) := by
  unfold val; rw [List.foldl_append]; rfl
theorem val_fold (l : List UInt8) : ∀ a, l.foldl (fun a c => 10 * a + (c.toNat - 48)) a = a * 10 ^ l.length + val l := by
  induction l with
  | nil => intro a; simp [val]
  | cons c l ih =>
    intro a
    unfold val
    rw [List.foldl_cons, List.foldl_cons, ih, ih (10 * 0 + (c.toNat - 48)), List.length_cons, Nat.pow_succ, Nat.add_mul, Nat.mul_zero, Nat.zero_add, Nat.mul_comm 10 a, Nat.mul_assoc, Nat.mul_comm 10]
    omega
theorem val_append (l r : List UInt8) : val (l ++ r) = val l * 10 ^ r.length + val r := by
  unfold val; rw [List.foldl_append, val_fold]; rfl
theorem val_cons (c : UInt8) (l : List UInt8) : val (c :: l) = (c.toNat - 48) * 10 ^ l.length + val l := by
  have := val_append [c] l
  simpa [val] using this
theorem isDig_le {c : UInt8} (h : isDig c = true) : 48 ≤ c.toNat ∧ c.toNat ≤ 57 := by
  have := (isDig_iff c).1 h; omega
theorem val_lt : ∀ (l : List UInt8), l.all isDig = true → val l < 10 ^ l.length
  | [], _ => by simp [val]
  | c :: l, h => by
    rw [List.all_cons, Bool.and_eq_true] at h
    have hc := isDig_le h.1
    have ih := val_lt l h.2
    rw [val_cons, List.length_cons, Nat.pow_succ]
    have : (c.toNat - 48) * 10 ^ l.length ≤ 9 * 10 ^ l.length := Nat.mul_le_mul_right _ (by omega)
    omega

/-- a number's row, without needless noughts -/
def dec (n : Nat) : List UInt8 := if n < 10 then [UInt8.ofNat (48 + n)] else dec (n / 10) ++ [UInt8.ofNat (48 + n % 10)]
termination_by n
decreasing_by omega

theorem ofNat_dig {d : Nat} (h : d < 10) : (UInt8.ofNat (48 + d)).toNat = 48 + d := by
  rw [UInt8.toNat_ofNat']; omega
theorem isDig_of {d : Nat} (h : d < 10) : isDig (UInt8.ofNat (48 + d)) = true := by
  rw [isDig_iff, ofNat_dig h]; omega
theorem dec_small {n : Nat} (h : n < 10) : dec n = [UInt8.ofNat (48 + n)] := by rw [dec, if_pos h]
theorem dec_big {n : Nat} (h : ¬ n < 10) : dec n = dec (n / 10) ++ [UInt8.ofNat (48 + n % 10)] := by rw [dec, if_neg h]
theorem dec_zero : dec 0 = [48] := dec_small (by omega)

theorem dec_all : ∀ n : Nat, (dec n).all isDig = true := by
  intro n
  induction n using Nat.strongRecOn with
  | ind n ih =>
    by_cases h : n < 10
    · rw [dec_small h, List.all_cons, List.all_nil, isDig_of h]; rfl
    · rw [dec_big h, List.all_append, ih (n / 10) (by omega), List.all_cons, List.all_nil, isDig_of (Nat.mod_lt n (by omega : 10 > 0))]; rfl
theorem val_dec : ∀ n : Nat, val (dec n) = n := by
  intro n
  induction n using Nat.strongRecOn with
  | ind n ih =>
    by_cases h : n < 10
    · rw [dec_small h, ← List.nil_append [_], val_snoc, val_nil, ofNat_dig h]; omega
    · rw [dec_big h, val_snoc, ih (n / 10) (by omega), ofNat_dig (Nat.mod_lt n (by omega : 10 > 0))]; omega
theorem dec_ne (n : Nat) : dec n ≠ [] := by
  by_cases h : n < 10
  · rw [dec_small h]; simp
  · rw [dec_big h]; simp
theorem dec_len (n : Nat) : 1 ≤ (dec n).length := by
  have := dec_ne n
  cases h : dec n with
  | nil => exact absurd h this
  | cons c l => simp

/-- a row without needless noughts -/
structure Canon (l : List UInt8) : Prop where
  dig : l.all isDig = true
  ne : l ≠ []
  head : l.length = 1 ∨ l.head? ≠ some 48

theorem head_app (l : List UInt8) (r : List UInt8) (h : l ≠ []) : (l ++ r).head? = l.head? := by
  cases l with
  | nil => exact absurd rfl h
  | cons c l => rfl
theorem dec_head : ∀ n : Nat, n ≠ 0 → (dec n).head? ≠ some 48 := by
  intro n
  induction n using Nat.strongRecOn with
  | ind n ih =>
    intro h0
    by_cases h : n < 10
    · rw [dec_small h]
      simp only [List.head?_cons, ne_eq, Option.some.injEq]
      intro e
      have := congrArg UInt8.toNat e
      rw [ofNat_dig h] at this
      have z : (48 : UInt8).toNat = 48 := rfl
      omega
    · rw [dec_big h, head_app _ _ (dec_ne _)]
      exact ih (n / 10) (by omega) (by omega)
theorem dec_canon (n : Nat) : Canon (dec n) := by
  refine ⟨dec_all n, dec_ne n, ?_⟩
  by_cases h : n = 0
  · left; rw [h, dec_zero]; rfl
  · right; exact dec_head n h

theorem ofNat_back {c : UInt8} (h : isDig c = true) : UInt8.ofNat (48 + (c.toNat - 48)) = c := by
  have := isDig_le h
  apply UInt8.toNat_inj.1
  rw [UInt8.toNat_ofNat']
  have := c.toNat_lt
  omega

/-- a row of digits with something in it is taken up by dec, its noughts ahead dropped -/
theorem dec_val_snoc (l : List UInt8) (c : UInt8) (hc : isDig c = true) (hl : 0 < val l) : dec (val (l ++ [c])) = dec (val l) ++ [c] := by
  have hc' := isDig_le hc
  rw [val_snoc, dec_big (by omega)]
  congr 2
  · congr 1; omega
  · rw [show (10 * val l + (c.toNat - 48)) % 10 = c.toNat - 48 by omega, ofNat_back hc]

theorem val_pos {c : UInt8} {l : List UInt8} (h : isDig c = true) (hn : c ≠ 48) : 0 < val (c :: l) := by
  have hc := isDig_le h
  have : c.toNat ≠ 48 := fun e => hn (UInt8.toNat_inj.1 (by rw [e]; rfl))
  rw [val_cons]
  have := Nat.mul_le_mul_right (10 ^ l.length) (show 1 ≤ c.toNat - 48 by omega)
  have := Nat.pow_pos (n := l.length) (show 0 < 10 by omega)
  omega

theorem rev_ind {P : List UInt8 → Prop} (h0 : P []) (h1 : ∀ l c, P l → P (l ++ [c])) : ∀ l, P l := by
  intro l
  have : ∀ r : List UInt8, P r.reverse := by
    intro r
    induction r with
    | nil => exact h0
    | cons c r ih => rw [List.reverse_cons]; exact h1 _ _ ih
  have e := this l.reverse
  rwa [List.reverse_reverse] at e

theorem dec_val_head (c : UInt8) (hc : isDig c = true) (hn : c ≠ 48) : ∀ l : List UInt8, l.all isDig = true → dec (val (c :: l)) = c :: l := by
  intro l
  refine rev_ind (P := fun l => l.all isDig = true → dec (val (c :: l)) = c :: l) ?_ ?_ l
  · intro _
    have hc' := isDig_le hc
    rw [val_cons, val_nil, List.length_nil, Nat.pow_zero, Nat.mul_one, Nat.add_zero, dec_small (by omega), ofNat_back hc]
  · intro l d ih ha
    rw [List.all_append, Bool.and_eq_true] at ha
    have hd : isDig d = true := by simpa using ha.2
    rw [← List.cons_append, dec_val_snoc (c :: l) d hd (val_pos hc hn), ih ha.1]

theorem canon_dec {l : List UInt8} (h : Canon l) : dec (val l) = l := by
  obtain ⟨ha, hne, hh⟩ := h
  cases l with
  | nil => exact absurd rfl hne
  | cons c l =>
    rw [List.all_cons, Bool.and_eq_true] at ha
    by_cases hc : c = 48
    · subst hc
      rcases hh with hh | hh
      · have : l = [] := by simpa using hh
        subst this
        rw [show val [48] = 0 from rfl, dec_zero]
      · simp at hh
    · exact dec_val_head c ha.1 hc l ha.2
theorem canon_inj {l r : List UInt8} (hl : Canon l) (hr : Canon r) (h : val l = val r) : l = r := by
  rw [← canon_dec hl, ← canon_dec hr, h]

/-- noughts ahead are dropped; "0" where nothing is left -/
def trimZ : List UInt8 → List UInt8
  | [] => [48]
  | c :: l => if c = 48 then trimZ l else c :: l
theorem trimZ_dec : ∀ l : List UInt8, l.all isDig = true → trimZ l = dec (val l)
  | [], _ => by rw [val_nil, dec_zero]; rfl
  | c :: l, h => by
    rw [List.all_cons, Bool.and_eq_true] at h
    unfold trimZ
    by_cases hc : c = 48
    · rw [if_pos hc, trimZ_dec l h.2, hc, val_cons]
      simp
    · rw [if_neg hc, dec_val_head c h.1 hc l h.2]

theorem natOk_canon {l : List UInt8} (h : natOk l = true) : Canon l ∧ l.length ≤ 600 := by
  unfold natOk at h
  simp only [Bool.and_eq_true, decide_eq_true_eq, Bool.or_eq_true, bne_iff_ne] at h
  obtain ⟨h1, ⟨h2, h3⟩, h4⟩ := h
  exact ⟨⟨h1, fun e => by rw [e] at h2; simp at h2, h4⟩, h3⟩
theorem canon_natOk {l : List UInt8} (h : Canon l) (h3 : l.length ≤ 600) : natOk l = true := by
  obtain ⟨h1, h2, h4⟩ := h
  unfold natOk
  simp only [Bool.and_eq_true, decide_eq_true_eq, Bool.or_eq_true, bne_iff_ne]
  exact ⟨h1, ⟨List.length_pos_iff.2 h2, h3⟩, h4⟩

/-- how long a number's row is -/
theorem dec_len_le : ∀ (k n : Nat), 1 ≤ k → n < 10 ^ k → (dec n).length ≤ k
  | 0, _, h, _ => by omega
  | k + 1, n, _, h => by
    by_cases hn : n < 10
    · rw [dec_small hn]; simp
    · rw [dec_big hn, List.length_append]
      have hk : 1 ≤ k := by
        by_cases e : k = 0
        · subst e; simp at h; omega
        · omega
      have := dec_len_le k (n / 10) hk (by rw [Nat.pow_succ] at h; omega)
      simp; omega
theorem dec_len_ge (n : Nat) (h0 : n ≠ 0) : 10 ^ ((dec n).length - 1) ≤ n := by
  induction n using Nat.strongRecOn with
  | ind n ih =>
    by_cases hn : n < 10
    · rw [dec_small hn]; simp; omega
    · have ih' := ih (n / 10) (by omega) (by omega)
      rw [dec_big hn, List.length_append]
      have := dec_len (n / 10)
      have e : (dec (n / 10)).length + [UInt8.ofNat (48 + n % 10)].length - 1 = ((dec (n / 10)).length - 1) + 1 := by simp; omega
      rw [e, Nat.pow_succ]
      omega

/-- the digit of a number at a place from its end -/
def dgt (v i : Nat) : Nat := v / 10 ^ i % 10
theorem dgt_lt (v i : Nat) : dgt v i < 10 := Nat.mod_lt _ (by omega)
theorem dgt_zero (v : Nat) : dgt v 0 = v % 10 := by simp [dgt]
theorem dgt_succ (v i : Nat) : dgt v (i + 1) = dgt (v / 10) i := by
  unfold dgt; rw [Nat.pow_succ, Nat.mul_comm, Nat.div_div_eq_div_mul]
theorem dgt_val : ∀ (l : List UInt8), l.all isDig = true → ∀ i (h : i < l.length), dgt (val l) i = (l[l.length - 1 - i]'(by omega)).toNat - 48 := by
  intro l
  refine rev_ind (P := fun l => l.all isDig = true → ∀ i (h : i < l.length), dgt (val l) i = (l[l.length - 1 - i]'(by omega)).toNat - 48) ?_ ?_ l
  · intro _ i h; simp at h
  · intro l c ih ha i h
    rw [List.all_append, Bool.and_eq_true] at ha
    have hc : isDig c = true := by simpa using ha.2
    have hc' := isDig_le hc
    rw [val_snoc]
    cases i with
    | zero =>
      rw [dgt_zero]
      have e : (l ++ [c])[(l ++ [c]).length - 1 - 0]'(by simp) = c := by simp
      rw [e]; omega
    | succ i =>
      rw [dgt_succ, show (10 * val l + (c.toNat - 48)) / 10 = val l by omega]
      simp at h
      rw [ih ha.1 i h]
      congr 2
      rw [List.getElem_append_left (by simp; omega)]
      congr 1
      simp; omega
theorem dgt_over {v i : Nat} (h : v < 10 ^ i) : dgt v i = 0 := by
  unfold dgt; rw [Nat.div_eq_of_lt h]

/-- a row of n places -/
def digs (v : Nat) : Nat → List UInt8
  | 0 => []
  | n + 1 => digs (v / 10) n ++ [UInt8.ofNat (48 + v % 10)]
theorem digs_length : ∀ (n v : Nat), (digs v n).length = n
  | 0, _ => rfl
  | n + 1, v => by simp [digs, digs_length n]
theorem digs_all : ∀ (n v : Nat), (digs v n).all isDig = true
  | 0, _ => rfl
  | n + 1, v => by rw [digs, List.all_append, digs_all n, List.all_cons, List.all_nil, isDig_of (Nat.mod_lt v (by omega : 10 > 0))]; rfl
theorem val_digs : ∀ (n v : Nat), v < 10 ^ n → val (digs v n) = v
  | 0, v, h => by simp at h; subst h; rfl
  | n + 1, v, h => by
    rw [digs, val_snoc, val_digs n (v / 10) (by rw [Nat.pow_succ] at h; omega), ofNat_dig (Nat.mod_lt v (by omega : 10 > 0))]; omega
theorem digs_cons : ∀ (n v : Nat), digs v (n + 1) = UInt8.ofNat (48 + dgt v n) :: digs v n
  | 0, v => by simp [digs, dgt]
  | n + 1, v => by
    have e : digs v (n + 2) = digs (v / 10) (n + 1) ++ [UInt8.ofNat (48 + v % 10)] := rfl
    have e2 : digs v (n + 1) = digs (v / 10) n ++ [UInt8.ofNat (48 + v % 10)] := rfl
    rw [e, digs_cons n (v / 10), e2, dgt_succ, List.cons_append]
theorem digs_get : ∀ (n v j : Nat) (h : j < n), (digs v n)[j]'(by rw [digs_length]; exact h) = UInt8.ofNat (48 + dgt v (n - 1 - j))
  | 0, _, j, h => by omega
  | n + 1, v, 0, h => by simp [digs_cons]
  | n + 1, v, j + 1, h => by
    have := digs_get n v j (by omega)
    simp only [digs_cons, List.getElem_cons_succ]
    rw [this]
    congr 3
    omega
/-- a row of places, trimmed -/
theorem trimZ_digs {n v : Nat} (h : v < 10 ^ n) : trimZ (digs v n) = dec v := by
  rw [trimZ_dec _ (digs_all n v), val_digs n v h]

/-! ### comparing -/
def cmpN (a b : Nat) : Int := if a < b then -1 else if a = b then 0 else 1

theorem canon_low {l : List UInt8} (h : Canon l) (h2 : 2 ≤ l.length) : 10 ^ (l.length - 1) ≤ val l := by
  obtain ⟨ha, hne, hh⟩ := h
  cases l with
  | nil => exact absurd rfl hne
  | cons c l =>
    rw [List.all_cons, Bool.and_eq_true] at ha
    have hc : c ≠ 48 := by
      rcases hh with hh | hh
      · omega
      · intro e; subst e; simp at hh
    have hd := isDig_le ha.1
    have : c.toNat ≠ 48 := fun e => hc (UInt8.toNat_inj.1 (by rw [e]; rfl))
    rw [val_cons, List.length_cons, Nat.add_sub_cancel]
    have := Nat.mul_le_mul_right (10 ^ l.length) (show 1 ≤ c.toNat - 48 by omega)
    omega
theorem canon_shorter {l r : List UInt8} (hl : Canon l) (hr : Canon r) (h : l.length < r.length) : val l < val r := by
  have h1 := val_lt l hl.dig
  have hl0 : 1 ≤ l.length := List.length_pos_iff.2 hl.ne
  have h2 := canon_low hr (by omega)
  have h3 : 10 ^ l.length ≤ 10 ^ (r.length - 1) := Nat.pow_le_pow_right (by omega) (by omega)
  omega
theorem val_pad (c d : UInt8) (x y : List UInt8) (hx : x.all isDig = true) (hy : y.all isDig = true) (hc : isDig c = true) (hd : isDig d = true) (h : x.length = y.length) :
    (c.toNat < d.toNat → val (c :: x) < val (d :: y)) ∧ (c = d → (val (c :: x) < val (d :: y) ↔ val x < val y)) := by
  have h1 := val_lt x hx
  have h2 := val_lt y hy
  have h3 := isDig_le hc
  have h4 := isDig_le hd
  rw [val_cons, val_cons, h] at *
  refine ⟨fun hlt => ?_, fun e => ?_⟩
  · have h5 := Nat.mul_le_mul_right (10 ^ y.length) (show c.toNat - 48 + 1 ≤ d.toNat - 48 by omega)
    rw [Nat.add_mul] at h5
    omega
  · subst e; omega
theorem u8_lt_iff (c d : UInt8) : c < d ↔ c.toNat < d.toNat := UInt8.lt_iff_toNat_lt
theorem less_val : ∀ (x y : List UInt8), x.all isDig = true → y.all isDig = true → x.length = y.length → Op.bytesLess x y = decide (val x < val y)
  | [], [], _, _, _ => by simp [Op.bytesLess]
  | [], _ :: _, _, _, h => by simp at h
  | _ :: _, [], _, _, h => by simp at h
  | c :: x, d :: y, hx, hy, h => by
    rw [List.all_cons, Bool.and_eq_true] at hx hy
    have hl : x.length = y.length := by simpa using h
    obtain ⟨p1, p2⟩ := val_pad c d x y hx.2 hy.2 hx.1 hy.1 hl
    obtain ⟨q1, _⟩ := val_pad d c y x hy.2 hx.2 hy.1 hx.1 hl.symm
    have ih := less_val x y hx.2 hy.2 hl
    unfold Op.bytesLess
    by_cases h1 : c.toNat < d.toNat
    · rw [decide_eq_true (p := c < d) ((u8_lt_iff _ _).2 h1), decide_eq_true (p1 h1)]; rfl
    · by_cases h2 : c = d
      · rw [decide_eq_false (p := c < d) (fun h => h1 ((u8_lt_iff _ _).1 h)), ih, h2]
        subst h2
        simp [p2 rfl]
      · have h3 : d.toNat < c.toNat := by
          have : c.toNat ≠ d.toNat := fun e => h2 (UInt8.toNat_inj.1 e)
          omega
        have := q1 h3
        rw [decide_eq_false (p := c < d) (fun h => h1 ((u8_lt_iff _ _).1 h)), decide_eq_false (p := val (c :: x) < val (d :: y)) (by omega)]
        simp [h2]
theorem compare_val : ∀ (x y : List UInt8), x.all isDig = true → y.all isDig = true → x.length = y.length → Lib.compareBytes x y = cmpN (val x) (val y)
  | [], [], _, _, _ => by simp [Lib.compareBytes, cmpN, val]
  | [], _ :: _, _, _, h => by simp at h
  | _ :: _, [], _, _, h => by simp at h
  | c :: x, d :: y, hx, hy, h => by
    rw [List.all_cons, Bool.and_eq_true] at hx hy
    have hl : x.length = y.length := by simpa using h
    obtain ⟨p1, p2⟩ := val_pad c d x y hx.2 hy.2 hx.1 hy.1 hl
    obtain ⟨q1, _⟩ := val_pad d c y x hy.2 hx.2 hy.1 hx.1 hl.symm
    have ih := compare_val x y hx.2 hy.2 hl
    unfold Lib.compareBytes
    by_cases h1 : c.toNat < d.toNat
    · rw [if_pos ((u8_lt_iff _ _).2 h1)]
      unfold cmpN; rw [if_pos (p1 h1)]
    · rw [if_neg (fun h => h1 ((u8_lt_iff _ _).1 h))]
      by_cases h3 : d.toNat < c.toNat
      · have := q1 h3
        rw [if_pos ((u8_lt_iff _ _).2 h3)]
        unfold cmpN; rw [if_neg (by omega), if_neg (by omega)]
      · rw [if_neg (fun h => h3 ((u8_lt_iff _ _).1 h)), ih]
        have h2 : c = d := UInt8.toNat_inj.1 (by omega)
        have p := p2 h2
        subst h2
        unfold cmpN
        by_cases h4 : val x < val y
        · rw [if_pos h4, if_pos (p.2 h4)]
        · rw [if_neg h4, if_neg (fun h => h4 (p.1 h))]
          by_cases h5 : val x = val y
          · rw [if_pos h5, if_pos (by rw [val_cons, val_cons, hl, h5])]
          · rw [if_neg h5, if_neg (fun e => h5 (by rw [val_cons, val_cons, hl] at e; omega))]

/-! ### texts given by their bytes -/
def ofL (l : List UInt8) : ByteArray := ⟨l.toArray⟩
theorem bs_ofL (l : List UInt8) : bs (ofL l) = l := rfl
theorem size_ofL (l : List UInt8) : (ofL l).size = l.length := by rw [← bs_length, bs_ofL]
theorem ofL_bs (s : ByteArray) : ofL (bs s) = s := rfl
theorem bs_inj {s t : ByteArray} (h : bs s = bs t) : s = t := by rw [← ofL_bs s, ← ofL_bs t, h]
theorem trimZ_drop : ∀ l : List UInt8, (match l.dropWhile (· == 48) with | [] => [48] | r => r) = trimZ l
  | [] => rfl
  | c :: l => by
    unfold trimZ
    by_cases h : c = 48
    · rw [if_pos h, List.dropWhile_cons, if_pos (by rw [h]; rfl)]; exact trimZ_drop l
    · rw [if_neg h, List.dropWhile_cons, if_neg (by simpa using h)]
theorem trimZ_canon {l : List UInt8} (h : l.all isDig = true) : Canon (trimZ l) := by rw [trimZ_dec l h]; exact dec_canon _
theorem val_trimZ {l : List UInt8} (h : l.all isDig = true) : val (trimZ l) = val l := by rw [trimZ_dec l h, val_dec]
theorem trimZ_len : ∀ l : List UInt8, (trimZ l).length ≤ l.length + 1
  | [] => by simp [trimZ]
  | c :: l => by
    unfold trimZ
    split
    · have := trimZ_len l; simp; omega
    · simp
end Go.Proofs.YtjjpdoabagnmoaaGreatDoor
/-
  Plain facts on adding, taking away and multiplying place by place. No program here. No condition.
-/
namespace Go.Proofs.YtjjpdoabagnmoaaGreatDoor

theorem mod_succ (a i : Nat) : a % 10 ^ (i + 1) = a % 10 ^ i + 10 ^ i * dgt a i := by
  rw [Nat.pow_succ, Nat.mod_mul]; rfl
theorem pow_pos' (i : Nat) : 0 < 10 ^ i := Nat.pow_pos (by omega)
theorem dgt_div (v i : Nat) : v / 10 ^ (i + 1) = v / 10 ^ i / 10 := by rw [Nat.pow_succ, Nat.div_div_eq_div_mul]
theorem dgt_mod (x v i : Nat) (h : x % 10 ^ (i + 1) = v % 10 ^ (i + 1)) : dgt x i = dgt v i := by
  have h1 := mod_succ x i
  have h2 := mod_succ v i
  have h3 : x % 10 ^ i = v % 10 ^ i := by
    have := congrArg (· % 10 ^ i) h
    simpa [Nat.pow_succ, Nat.mod_mul_right_mod] using this
  rw [h, h2, h3] at h1
  have h4 : 10 ^ i * dgt v i = 10 ^ i * dgt x i := by omega
  exact (Nat.eq_of_mul_eq_mul_left (pow_pos' i) h4).symm

/-- what is carried behind i places -/
def car (a b i : Nat) : Nat := (a % 10 ^ i + b % 10 ^ i) / 10 ^ i
theorem car_zero (a b : Nat) : car a b 0 = 0 := by simp [car, Nat.mod_one]
theorem car_step (a b i : Nat) : car a b i + dgt a i + dgt b i = (a % 10 ^ (i + 1) + b % 10 ^ (i + 1)) / 10 ^ i := by
  rw [mod_succ a i, mod_succ b i]
  have e : a % 10 ^ i + 10 ^ i * dgt a i + (b % 10 ^ i + 10 ^ i * dgt b i) = (a % 10 ^ i + b % 10 ^ i) + 10 ^ i * (dgt a i + dgt b i) := by rw [Nat.mul_add]; omega
  rw [e, Nat.add_mul_div_left _ _ (pow_pos' i)]
  unfold car; omega
theorem car_succ (a b i : Nat) : (car a b i + dgt a i + dgt b i) / 10 = car a b (i + 1) := by
  rw [car_step, Nat.div_div_eq_div_mul, ← Nat.pow_succ]; rfl
theorem car_dgt (a b i : Nat) : (car a b i + dgt a i + dgt b i) % 10 = dgt (a + b) i := by
  rw [car_step]
  show dgt (a % 10 ^ (i + 1) + b % 10 ^ (i + 1)) i = _
  exact dgt_mod _ _ _ (by rw [Nat.add_mod a b])
theorem car_le (a b i : Nat) : car a b i ≤ 1 := by
  unfold car
  have h1 := Nat.mod_lt a (pow_pos' i)
  have h2 := Nat.mod_lt b (pow_pos' i)
  have : (a % 10 ^ i + b % 10 ^ i) / 10 ^ i < 2 := by
    rw [Nat.div_lt_iff_lt_mul (pow_pos' i)]; omega
  omega
theorem car_end {a b i : Nat} (ha : a < 10 ^ i) (hb : b < 10 ^ i) (h : car a b i = 0) : a + b < 10 ^ i := by
  unfold car at h
  rw [Nat.mod_eq_of_lt ha, Nat.mod_eq_of_lt hb, Nat.div_eq_zero_iff] at h
  have := pow_pos' i
  omega

theorem car_over {a b n i : Nat} (ha : a < 10 ^ n) (hb : b < 10 ^ n) (h : n < i) : car a b i = 0 := by
  have h1 : 10 ^ (n + 1) ≤ 10 ^ i := Nat.pow_le_pow_right (by omega) h
  rw [Nat.pow_succ] at h1
  unfold car
  rw [Nat.div_eq_zero_iff]
  right
  rw [Nat.mod_eq_of_lt (by omega), Nat.mod_eq_of_lt (by omega)]
  omega

/-- what is owed behind i places: what adding the difference carries -/
def owe (a b i : Nat) : Nat := car b (a - b) i
theorem owe_zero (a b : Nat) : owe a b 0 = 0 := car_zero _ _
theorem owe_le (a b i : Nat) : owe a b i ≤ 1 := car_le _ _ _
theorem owe_step (a b i : Nat) (h : b ≤ a) :
    (dgt b i + owe a b i ≤ dgt a i → owe a b (i + 1) = 0 ∧ dgt (a - b) i = dgt a i - dgt b i - owe a b i) ∧
    (dgt a i < dgt b i + owe a b i → owe a b (i + 1) = 1 ∧ dgt (a - b) i = dgt a i + 10 - dgt b i - owe a b i) := by
  have h1 := car_succ b (a - b) i
  have h2 := car_dgt b (a - b) i
  rw [show b + (a - b) = a from Nat.add_sub_cancel' h] at h2
  have d1 := dgt_lt (a - b) i
  have d2 := dgt_lt b i
  have d3 := car_le b (a - b) i
  unfold owe
  rw [← h1, ← h2]
  generalize car b (a - b) i = c at *
  generalize dgt b i = x at *
  generalize dgt (a - b) i = y at *
  omega

/-! ### a product's columns -/
/-- the sum of the products of the digits whose places add up to j, the first i places of a taken, of the next k places -/
def colTo (a b la : Nat) : Nat → Nat → Nat
  | 0, _ => 0
  | i + 1, j => colTo a b la i j + (if i ≤ j then dgt a i * dgt b (j - i) else 0)
end Go.Proofs.YtjjpdoabagnmoaaGreatDoor
/-
  Plain facts on noughts behind a row and on rounding half to even. No program here. No condition.
-/
namespace Go.Proofs.YtjjpdoabagnmoaaGreatDoor

theorem bs_app (a b : ByteArray) : bs (a ++ b) = bs a ++ bs b := by
  show (a ++ b).data.toList = _
  exact Joins.data_append a b

/-- so many noughts -/
def zs (n : Nat) : List UInt8 := List.replicate n 48
theorem zs_succ (n : Nat) : zs (n + 1) = zs n ++ [48] := List.replicate_succ'
theorem zs_len (n : Nat) : (zs n).length = n := List.length_replicate
theorem zs_all (n : Nat) : (zs n).all isDig = true := by
  rw [List.all_eq_true]; intro c hc
  rw [List.eq_of_mem_replicate hc]; rfl
theorem zs_repeat : ∀ n, Lib.repeatL [48] n = zs n
  | 0 => rfl
  | n + 1 => by show [48] ++ Lib.repeatL [48] n = _; rw [zs_repeat n]; rfl
theorem val_zs (l : List UInt8) : ∀ n, val (l ++ zs n) = val l * 10 ^ n
  | 0 => by simp [zs]
  | n + 1 => by
    have h0 : (48 : UInt8).toNat - 48 = 0 := rfl
    rw [zs_succ, ← List.append_assoc, val_snoc, val_zs l n, h0, Nat.add_zero, Nat.pow_succ, Nat.mul_comm 10, Nat.mul_assoc]
theorem all_zs {l : List UInt8} (h : l.all isDig = true) (n : Nat) : (l ++ zs n).all isDig = true := by
  rw [List.all_append, h, zs_all]; rfl
theorem val_zs_ahead (l : List UInt8) (n : Nat) : val (zs n ++ l) = val l := by
  have h0 := val_zs [] n
  rw [List.nil_append, val_nil, Nat.zero_mul] at h0
  rw [val_append, h0, Nat.zero_mul, Nat.zero_add]
theorem dec_shift {l : List UInt8} (hc : Canon l) (h : 0 < val l) : ∀ n, l ++ zs n = dec (val l * 10 ^ n)
  | 0 => by rw [Nat.pow_zero, Nat.mul_one, canon_dec hc]; simp [zs]
  | n + 1 => by
    rw [zs_succ, ← List.append_assoc, ← val_zs, zs_succ, ← List.append_assoc, dec_val_snoc _ _ (by decide) (by rw [val_zs]; exact Nat.mul_pos h (pow_pos' n)), val_zs, ← dec_shift hc h n]

/-- a number by a power of ten, rounded half to even -/
def roundV (v n : Nat) : Nat := if 10 ^ n < 2 * (v % 10 ^ n) ∨ (2 * (v % 10 ^ n) = 10 ^ n ∧ v / 10 ^ n % 2 = 1) then v / 10 ^ n + 1 else v / 10 ^ n
theorem roundV_zero (v : Nat) : roundV v 0 = v := by
  unfold roundV
  rw [if_neg (by simp [Nat.mod_one])]; simp
theorem roundV_small {v n k : Nat} (h : v < 10 ^ k) (h2 : k < n) : roundV v n = 0 := by
  have h3 : 10 ^ (k + 1) ≤ 10 ^ n := Nat.pow_le_pow_right (by omega) h2
  rw [Nat.pow_succ] at h3
  unfold roundV
  rw [Nat.mod_eq_of_lt (by omega), Nat.div_eq_of_lt (by omega), if_neg (by omega)]
theorem val_front {l : List UInt8} (ha : l.all isDig = true) {n : Nat} (h : n ≤ l.length) :
    val (l.take (l.length - n)) = val l / 10 ^ n ∧ val (l.drop (l.length - n)) = val l % 10 ^ n := by
  have e := val_append (l.take (l.length - n)) (l.drop (l.length - n))
  rw [List.take_append_drop, List.length_drop, show l.length - (l.length - n) = n by omega] at e
  have hd : (l.drop (l.length - n)).all isDig = true := by
    rw [List.all_eq_true] at ha ⊢
    exact fun c hc => ha c (List.mem_of_mem_drop hc)
  have hlt := val_lt _ hd
  rw [List.length_drop, show l.length - (l.length - n) = n by omega] at hlt
  generalize val (l.drop (l.length - n)) = r at *
  generalize val (l.take (l.length - n)) = q at *
  rw [e, Nat.mul_comm]
  constructor
  · rw [Nat.mul_add_div (pow_pos' n), Nat.div_eq_of_lt hlt]; omega
  · rw [Nat.mul_add_mod, Nat.mod_eq_of_lt hlt]
/-- the half of a power of ten -/
theorem val_half (n : Nat) : 2 * val (53 :: zs n) = 10 ^ (n + 1) := by
  have h0 := val_zs [] n
  rw [List.nil_append, val_nil, Nat.zero_mul] at h0
  rw [val_cons, h0, zs_len, Nat.pow_succ]
  have : (53 : UInt8).toNat - 48 = 5 := rfl
  rw [this]; omega
theorem half_all (n : Nat) : (53 :: zs n).all isDig = true := by rw [List.all_cons, zs_all]; rfl
theorem dig_inj {c d : UInt8} (hc : isDig c = true) (hd : isDig d = true) (h : c.toNat - 48 = d.toNat - 48) : c = d := by
  have h1 := isDig_le hc
  have h2 := isDig_le hd
  exact UInt8.toNat_inj.1 (by omega)
theorem val_inj : ∀ (x y : List UInt8), x.all isDig = true → y.all isDig = true → x.length = y.length → val x = val y → x = y
  | [], [], _, _, _, _ => rfl
  | [], _ :: _, _, _, h, _ => by simp at h
  | _ :: _, [], _, _, h, _ => by simp at h
  | c :: x, d :: y, hx, hy, h, hv => by
    rw [List.all_cons, Bool.and_eq_true] at hx hy
    have hl : x.length = y.length := by simpa using h
    have h1 := val_lt x hx.2
    have h2 := val_lt y hy.2
    rw [val_cons, val_cons, hl] at hv
    rw [hl] at h1
    have e : c.toNat - 48 = d.toNat - 48 := by
      have e1 : ((c.toNat - 48) * 10 ^ y.length + val x) / 10 ^ y.length = c.toNat - 48 := by
        rw [Nat.mul_comm, Nat.mul_add_div (pow_pos' _), Nat.div_eq_of_lt h1]; omega
      have e2 : ((d.toNat - 48) * 10 ^ y.length + val y) / 10 ^ y.length = d.toNat - 48 := by
        rw [Nat.mul_comm, Nat.mul_add_div (pow_pos' _), Nat.div_eq_of_lt h2]; omega
      rw [← e1, ← e2, hv]
    rw [e] at hv
    rw [dig_inj hx.1 hy.1 e, val_inj x y hx.2 hy.2 hl (by omega)]
theorem dec_last (m : Nat) : (dec m)[(dec m).length - 1]'(by have := dec_len m; omega) = UInt8.ofNat (48 + m % 10) := by
  by_cases h : m < 10
  · have e := dec_small h
    simp only [e, List.length_singleton]
    rw [Nat.mod_eq_of_lt h]; rfl
  · have e := dec_big h
    simp only [e, List.length_append, List.length_singleton, Nat.add_sub_cancel]
    simp
/-- what the two tests of a rounding say -/
theorem round_cases {x : List UInt8} {v n : Nat} (hx : x.all isDig = true) (hl : x.length = n + 1) (hv : val x = v % 10 ^ (n + 1)) :
    (Op.bytesLess (53 :: zs n) x = true → roundV v (n + 1) = v / 10 ^ (n + 1) + 1) ∧
    (Op.bytesLess (53 :: zs n) x = false → (x == 53 :: zs n) = true → v / 10 ^ (n + 1) % 2 = 1 → roundV v (n + 1) = v / 10 ^ (n + 1) + 1) ∧
    (Op.bytesLess (53 :: zs n) x = false → (x == 53 :: zs n) = true → v / 10 ^ (n + 1) % 2 ≠ 1 → roundV v (n + 1) = v / 10 ^ (n + 1)) ∧
    (Op.bytesLess (53 :: zs n) x = false → (x == 53 :: zs n) = false → roundV v (n + 1) = v / 10 ^ (n + 1)) := by
  have hh := val_half n
  have hlen : (53 :: zs n).length = x.length := by rw [hl, List.length_cons, zs_len]
  rw [less_val _ _ (half_all n) hx hlen]
  have heq : (x == 53 :: zs n) = decide (val x = val (53 :: zs n)) := by
    by_cases e : val x = val (53 :: zs n)
    · rw [decide_eq_true e, val_inj _ _ hx (half_all n) hlen.symm e]; simp
    · rw [decide_eq_false e, beq_eq_false_iff_ne]; exact fun e' => e (by rw [e'])
  rw [heq]
  simp only [decide_eq_true_eq, decide_eq_false_iff_not]
  rw [hv] at *
  unfold roundV
  generalize v % 10 ^ (n + 1) = r at *
  generalize v / 10 ^ (n + 1) = q at *
  generalize val (53 :: zs n) = h at *
  refine ⟨fun a => ?_, fun a b c => ?_, fun a b c => ?_, fun a b => ?_⟩
  · rw [if_pos (by omega)]
  · rw [if_pos (by omega)]
  · rw [if_neg (by omega)]
  · rw [if_neg (by omega)]
/-- .. as the tests ask them -/
theorem round_three {x : List UInt8} {v n : Nat} (hx : x.all isDig = true) (hl : x.length = n + 1) (hv : val x = v % 10 ^ (n + 1)) :
    (Op.bytesLess x (53 :: zs n) = false ∧ x ≠ 53 :: zs n ∧ roundV v (n + 1) = v / 10 ^ (n + 1) + 1) ∨
    (Op.bytesLess x (53 :: zs n) = true ∧ x ≠ 53 :: zs n ∧ roundV v (n + 1) = v / 10 ^ (n + 1)) ∨
    (x = 53 :: zs n ∧ v / 10 ^ (n + 1) % 2 = 1 ∧ roundV v (n + 1) = v / 10 ^ (n + 1) + 1) ∨
    (x = 53 :: zs n ∧ v / 10 ^ (n + 1) % 2 = 0 ∧ roundV v (n + 1) = v / 10 ^ (n + 1)) := by
  obtain ⟨c1, c2, c3, c4⟩ := round_cases hx hl hv
  have hlen : (53 :: zs n).length = x.length := by rw [hl, List.length_cons, zs_len]
  have e1 := less_val _ _ (half_all n) hx hlen
  have e2 := less_val _ _ hx (half_all n) hlen.symm
  by_cases h : x = 53 :: zs n
  · have hb : (x == 53 :: zs n) = true := by rw [h]; simp
    have hf : Op.bytesLess (53 :: zs n) x = false := by rw [e1, h]; simp
    by_cases ho : v / 10 ^ (n + 1) % 2 = 1
    · exact .inr (.inr (.inl ⟨h, ho, c2 hf hb ho⟩))
    · exact .inr (.inr (.inr ⟨h, by omega, c3 hf hb ho⟩))
  · have hb : (x == 53 :: zs n) = false := beq_eq_false_iff_ne.2 h
    have hne : val x ≠ val (53 :: zs n) := fun e => h (val_inj _ _ hx (half_all n) hlen.symm e)
    by_cases hlt : val (53 :: zs n) < val x
    · exact .inl ⟨by rw [e2]; exact decide_eq_false (by omega), h, c1 (by rw [e1]; exact decide_eq_true hlt)⟩
    · exact .inr (.inl ⟨by rw [e2]; exact decide_eq_true (by omega), h, c4 (by rw [e1]; exact decide_eq_false hlt) hb⟩)
theorem less_self (l : List UInt8) : Op.bytesLess l l = false := by
  induction l with
  | nil => rfl
  | cons c l ih => unfold Op.bytesLess; simp [ih]
end Go.Proofs.YtjjpdoabagnmoaaGreatDoor

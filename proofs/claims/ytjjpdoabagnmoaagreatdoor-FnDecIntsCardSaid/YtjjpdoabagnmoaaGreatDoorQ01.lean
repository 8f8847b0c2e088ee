/-
  Texts of this claim in one file, in build order: Text, Ints, Big. Each says ahead what it proves and under which conditions.
-/
import Derived.Test.YtjjpdoabagnmoaaGreatDoorRows
import Derived.WalkKit
import Derived.Lib.Hide
import Derived.Lib.Strings
import Derived.WalkSmall
import Derived.WalkLawsBesides
import Derived.WalkSpells
import Derived.BigQuiet
import Derived.Deep.Light
/-
  Plain facts on texts as lists of bytes: digits, naturals' texts, and small lemmas on lists. No program here. No condition.
-/
namespace Go.Proofs.YtjjpdoabagnmoaaGreatDoor
open Go.RowKit

/-- the bytes of a string -/
abbrev bs (s : ByteArray) : List UInt8 := s.data.toList

theorem bs_length (s : ByteArray) : (bs s).length = s.size := by
  unfold bs; rw [Array.length_toList]; rfl
theorem bs_get (s : ByteArray) (k : Nat) (h : k < s.size) : (bs s)[k]'(by rw [bs_length]; exact h) = s[k] := by
  simp [bs]; rfl
theorem take_snoc (s : ByteArray) (k : Nat) (h : k < s.size) : (bs s).take (k + 1) = (bs s).take k ++ [s[k]] := by
  rw [List.take_succ_eq_append_getElem (by rw [bs_length]; exact h), bs_get s k h]
theorem take_all (s : ByteArray) : (bs s).take s.size = bs s := by
  rw [List.take_of_length_le]; rw [bs_length]; exact Nat.le_refl _
theorem bs_mem (s : ByteArray) (k : Nat) (h : k < s.size) : s[k] ∈ bs s := by
  rw [← bs_get s k h]; exact List.getElem_mem _

/-- a digit -/
def isDig (c : UInt8) : Bool := decide (48 ≤ (c.toNat : Int)) && decide ((c.toNat : Int) ≤ 57)
theorem isDig_iff (c : UInt8) : isDig c = true ↔ 48 ≤ (c.toNat : Int) ∧ (c.toNat : Int) ≤ 57 := by simp [isDig]
theorem isDig_no {c : UInt8} (h : (c.toNat : Int) < 48 ∨ 57 < (c.toNat : Int)) : isDig c = false := by
  simp [isDig]; omega

/-- a code point -/
def isPt (c : Int) : Bool := decide (1 ≤ c) && decide (c ≤ 1114111) && !(decide (55296 ≤ c) && decide (c ≤ 57343))

theorem isPt_iff (c : Int) : isPt c = true ↔ 1 ≤ c ∧ c ≤ 1114111 ∧ ¬ (55296 ≤ c ∧ c ≤ 57343) := by
  unfold isPt; simp; omega

/-- a natural's text: 1 to 600 digits, no 0 ahead but in "0" -/
def natOk (l : List UInt8) : Bool := l.all isDig && (decide (1 ≤ l.length) && decide (l.length ≤ 600) && (decide (l.length = 1) || l.head? != some 48))

theorem ret_bool {a b : Bool} (h : a = b) : Ending.returned (.bool a) = .returned (.bool b) := by rw [h]
theorem ret_int {k : IntKind} {a b : Int} (h : a = b) : Ending.returned (.int k a) = .returned (.int k b) := by rw [h]
theorem all_no {l : List UInt8} {p : UInt8 → Bool} {c : UInt8} (h : c ∈ l) (hc : p c = false) : l.all p = false := by
  rw [List.all_eq_false]; exact ⟨c, h, by simp [hc]⟩
theorem natOk_big {l : List UInt8} (h : 600 < l.length) : natOk l = false := by
  unfold natOk; rw [decide_eq_false (p := l.length ≤ 600) (by omega)]; simp
theorem natOk_empty {l : List UInt8} (h : l.length < 1) : natOk l = false := by
  unfold natOk; rw [decide_eq_false (p := 1 ≤ l.length) (by omega)]; simp
theorem natOk_nz {c : UInt8} {l : List UInt8} (ha : (c :: l).all isDig = true) (h2 : (c :: l).length ≤ 600) (h : ¬ (c.toNat : Int) = 48) : natOk (c :: l) = true := by
  have hc : ¬ c = 48 := fun e => h (by rw [e]; rfl)
  unfold natOk; rw [ha, decide_eq_true h2]; simp [hc]
theorem natOk_z {c : UInt8} {l : List UInt8} (ha : (c :: l).all isDig = true) (h2 : (c :: l).length ≤ 600) (h : (c.toNat : Int) = 48) : natOk (c :: l) = ((c :: l) == [48]) := by
  have hc : c = 48 := UInt8.toNat_inj.1 (by have e : (48 : UInt8).toNat = 48 := rfl; omega)
  subst hc
  unfold natOk; rw [ha, decide_eq_true h2]
  cases l with
  | nil => simp
  | cons d l => simp
theorem bs_drop (s : ByteArray) (k : Nat) (h : k < s.size) : (bs s).drop k = s[k] :: (bs s).drop (k + 1) := by
  rw [← bs_get s k h]; exact List.drop_eq_getElem_cons _
theorem bs_cons (s : ByteArray) (h : 0 < s.size) : ∃ l, bs s = s[0] :: l := ⟨_, bs_drop s 0 h⟩
theorem u8_lt (c : UInt8) : (c.toNat : Int) < 256 := by have := c.toNat_lt; omega
theorem wrap64_u8 (c : UInt8) : wrap64 (c.toNat : Int) = (c.toNat : Int) := IntWalk.wrap64_in _ (by have := u8_lt c; constructor <;> omega)
theorem bs_head (s : ByteArray) (h : 0 < s.size) : (bs s).head? = some s[0] := by
  obtain ⟨l, hl⟩ := bs_cons s h; rw [hl]; rfl
theorem bs_last (s : ByteArray) (h : 0 < s.size) : (bs s).getLast? = some (s[s.size - 1]'(by omega)) := by
  rw [← bs_get s (s.size - 1) (by omega), List.getLast?_eq_getElem?]
  have e : (bs s).length - 1 = s.size - 1 := by rw [bs_length]
  rw [e, List.getElem?_eq_getElem]
theorem u8_eq {c : UInt8} {d : UInt8} (h : (c.toNat : Int) = (d.toNat : Int)) : c = d := UInt8.toNat_inj.1 (by omega)
theorem u8_48 {c : UInt8} (h : (c.toNat : Int) = 48) : c = 48 := u8_eq h
theorem u8_n48 {c : UInt8} (h : ¬ (c.toNat : Int) = 48) : ¬ c = 48 := fun e => h (by rw [e]; rfl)
theorem bs_empty {s : ByteArray} (h : s.size = 0) : bs s = [] := List.eq_nil_of_length_eq_zero (by rw [bs_length]; exact h)
theorem isEmpty_yes {s : ByteArray} (h : s.size = 0) : s.toList.isEmpty = true := by rw [Lib.toList_data]; show (bs s).isEmpty = true; rw [bs_empty h]; rfl
theorem isEmpty_no {s : ByteArray} (h : 0 < s.size) : s.toList.isEmpty = false := by
  rw [Lib.toList_data]; show (bs s).isEmpty = false; obtain ⟨l, hl⟩ := bs_cons s h; rw [hl]; rfl
theorem ne_nil {s : ByteArray} (h : 0 < s.size) : ¬ bs s = [] := by obtain ⟨l, hl⟩ := bs_cons s h; rw [hl]; simp
/-- what lies below B reads in w1 as in W -/
theorem bcell {B : Nat} {W w1 : World} (hb : Below B W w1) : (∀ b o, b < B → w1.cell? ⟨b, o, none⟩ = W.cell? ⟨b, o, none⟩) ∧ (∀ b o, b < B → w1.frozen? ⟨b, o, none⟩ = W.frozen? ⟨b, o, none⟩) :=
  ⟨fun b o h => hb.cell (p := ⟨b, o, none⟩) h, fun b o h => hb.frozen (p := ⟨b, o, none⟩) h⟩
end Go.Proofs.YtjjpdoabagnmoaaGreatDoor
/-
  Slices of integers: what a slice that is read holds, and a row that the call itself makes and fills. No program here. No condition.
-/
namespace Go.Proofs.YtjjpdoabagnmoaaGreatDoor
open Go.RowKit

/-- A slice that is read: empty, or a row of cells that lies below the heap's end. -/
def RowI (k : IntKind) (w : World) (a : Option Addr) (l : List Int) : Prop :=
  l = [] ∨ ∃ b off, a = some ⟨b, off, none⟩ ∧ b < w.heap.size ∧ ∀ i, i < l.length → w.cell? ⟨b, off + i, none⟩ = some (.int k (l.getD i 0))

/-- what a law's frame is told of a slice of integers that came in -/
def IsRow (k : IntKind) (w : World) (a : Option Addr) (len cap : Nat) (zs : List Int) : Prop :=
  (a = none ∧ len = 0 ∧ cap = 0 ∧ zs = []) ∨
  ∃ x, a = some x ∧ len ≤ cap ∧ cap ≤ maxLen ∧ zs.length = cap ∧ (∀ i, i < zs.length → w.cell? (x.add i) = some (.int k (zs.getD i 0))) ∧ ∀ n ∈ zs, (Lit.int k n).wf = true

theorem cell_lt {w : World} {b off : Nat} {v : Value} (h : w.cell? ⟨b, off, none⟩ = some v) : b < w.heap.size := by
  by_cases hb : b < w.heap.size
  · exact hb
  · exfalso
    have e : w.heap[b]? = none := by simp; omega
    simp [World.cell?, e] at h

theorem isRow_row {k : IntKind} {w : World} {a : Option Addr} {len cap : Nat} {zs : List Int} (h : IsRow k w a len cap zs) :
    RowI k w a (zs.take len) ∧ (zs.take len).length = len ∧ len ≤ maxLen ∧ ∀ n ∈ zs.take len, (Lit.int k n).wf = true := by
  rcases h with ⟨rfl, rfl, rfl, rfl⟩ | ⟨x, rfl, hl, hm, hz, hc, hw⟩
  · exact ⟨.inl rfl, rfl, Nat.zero_le _, fun n hn => by simp at hn⟩
  · have hlen : (zs.take len).length = len := by rw [List.length_take]; omega
    refine ⟨?_, hlen, by omega, fun n hn => hw n (List.mem_of_mem_take hn)⟩
    by_cases h0 : len = 0
    · left; subst h0; rfl
    · right
      obtain ⟨b, off, spot⟩ := x
      have hc0 := hc 0 (by omega)
      have hspot : spot = none := by simpa [Addr.add] using World.cell?_spot hc0
      subst hspot
      refine ⟨b, off, rfl, cell_lt (by simpa [Addr.add] using hc0), ?_⟩
      intro i hi
      have := hc i (by omega)
      rw [hlen] at hi
      rw [show (⟨b, off + i, none⟩ : Addr) = (⟨b, off, none⟩ : Addr).add i by simp [Addr.add], this]
      congr 2
      simp [List.getD_eq_getElem?_getD, hi]

theorem RowI.below {k : IntKind} {w w' : World} {a : Option Addr} {l : List Int} (h : RowI k w a l) (hb : Below w.heap.size w w') : RowI k w' a l := by
  rcases h with h | ⟨b, off, rfl, hlt, hc⟩
  · exact .inl h
  · exact .inr ⟨b, off, rfl, Nat.lt_of_lt_of_le hlt hb.size, fun i hi => by rw [hb.cell (p := ⟨b, off + i, none⟩) hlt]; exact hc i hi⟩

/-- A row g of n cells of the call's own that is being filled: cell j holds f j and may be written. -/
structure Fill (w wr : World) (g n : Nat) (f : Nat → Value) : Prop where
  below : Below w.heap.size w wr
  lo : w.heap.size ≤ g
  hi : g < wr.heap.size
  cell : ∀ j, j < n → wr.cell? ⟨g, j, none⟩ = some (f j)
  free : ∀ j, j < n → wr.frozen? ⟨g, j, none⟩ = false

theorem Fill.drew {w wr : World} {g n : Nat} {f : Nat → Value} (h : Fill w wr g n f) : Fill w wr.drew g n f :=
  ⟨h.below.drew, h.lo, h.hi, h.cell, h.free⟩

theorem Fill.store {w wr : World} {g n : Nat} {f : Nat → Value} (h : Fill w wr g n f) {j : Nat} (hj : j < n) (v : Value) :
    Fill w (wr.setCell ⟨g, j, none⟩ v) g n (fun i => if i = j then v else f i) := by
  refine ⟨h.below.setCell h.lo v, h.lo, by simpa [World.setCell] using h.hi, ?_, ?_⟩
  · intro i hi
    by_cases e : i = j
    · subst e
      simp only [if_true]
      exact World.cell?_setCell_same' _ _ _ (by rw [h.cell i hi]; rfl)
    · simp only [if_neg e]
      rw [World.cell?_setCell_other _ _ _ _ (by rintro ⟨⟩; exact e rfl)]
      exact h.cell i hi
  · intro i hi
    rw [World.frozen?_setCell]
    exact h.free i hi

theorem Fill.made (w w0 : World) (hb : Below w.heap.size w w0) (cs : Array Value) (T : TypeId) (f : Nat → Value) (hf : ∀ j, j < cs.size → cs[j]? = some (f j)) :
    Fill w (w0.alloc (.cells cs T)) w0.heap.size cs.size f := by
  refine ⟨hb.alloc hb.size _, hb.size, by simp, ?_, ?_⟩
  · intro j hj
    rw [← hf j hj]
    simp
  · intro j hj
    simp

theorem Fill.congr {w wr : World} {g n : Nat} {f f' : Nat → Value} (h : Fill w wr g n f) (hf : ∀ j, j < n → f j = f' j) : Fill w wr g n f' :=
  ⟨h.below, h.lo, h.hi, fun j hj => by rw [← hf j hj]; exact h.cell j hj, h.free⟩

theorem Fill.row {k : IntKind} {w wr : World} {g : Nat} {l : List Int} (h : Fill w wr g l.length (fun j => .int k (l.getD j 0))) : RowI k wr (some ⟨g, 0, none⟩) l :=
  .inr ⟨g, 0, rfl, h.hi, fun i hi => by rw [Nat.zero_add]; exact h.cell i hi⟩

/-- does a code point lie in one of the pairs -/
def inSet : List Int → Int → Bool
  | a :: b :: r, c => (decide (a ≤ c) && decide (c ≤ b)) || inSet r c
  | _, _ => false
def rxHas (l : List Int) (neg : Bool) (c : Int) : Bool := if inSet l c then !neg else neg

theorem drop_two (l : List Int) (k : Nat) (h : k + 1 < l.length) : l.drop k = l[k] :: l[k + 1] :: l.drop (k + 2) := by
  rw [List.drop_eq_getElem_cons (by omega), List.drop_eq_getElem_cons h]
theorem inSet_short (l : List Int) (c : Int) (h : l.length ≤ 1) : inSet l c = false := by
  match l, h with
  | [], _ => rfl
  | [_], _ => rfl
  | _ :: _ :: _, h => simp at h
theorem inSet_hit (l : List Int) (k : Nat) (c : Int) (h : k + 1 < l.length) (h1 : l[k] ≤ c) (h2 : c ≤ l[k + 1]) : inSet (l.drop k) c = true := by
  rw [drop_two l k h]; simp [inSet, h1, h2]
theorem inSet_miss (l : List Int) (k : Nat) (c : Int) (h : k + 1 < l.length) (h1 : ¬ (l[k] ≤ c ∧ c ≤ l[k + 1])) : inSet (l.drop k) c = inSet (l.drop (k + 2)) c := by
  rw [drop_two l k h]
  have : (decide (l[k] ≤ c) && decide (c ≤ l[k + 1])) = false := by
    rw [Bool.and_eq_false_iff]; simp only [decide_eq_false_iff_not]; omega
  show ((decide (l[k] ≤ c) && decide (c ≤ l[k + 1])) || _) = _
  rw [this]; rfl
end Go.Proofs.YtjjpdoabagnmoaaGreatDoor
/-
  The contract of the laws' own bound on a code. Condition: a row no longer than memory holds.
-/
namespace Go.Proofs.YtjjpdoabagnmoaaGreatDoor
open Go.RowKit
set_option linter.unusedVariables false
set_option linter.unusedSimpArgs false

theorem big_any (a : Option Addr) (len cap : Nat) (w : World) (hlen : len ≤ maxLen) :
    Calls Tryz.prog 13 #[.slice a len cap] w fun e w' => e = .returned (.bool (decide (1048576 < len))) ∧ w' = w := by
  unfold maxLen at hlen
  by_cases h : 1048576 < len
  · have h' : (1048576 : Int) < (len : Int) := by omega
    rw [decide_eq_true h]
    go_enter Tryz.func13, Tryz.ntmps13
    go_wp2
    go_ret
    exact ⟨rfl, rfl⟩
  · have h' : decide ((1048576 : Int) < (len : Int)) = false := decide_eq_false (by omega)
    rw [decide_eq_false h]
    go_enter Tryz.func13, Tryz.ntmps13
    go_wp2
    go_ret
    exact ⟨rfl, rfl⟩
end Go.Proofs.YtjjpdoabagnmoaaGreatDoor

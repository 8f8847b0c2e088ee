/-
  Plain facts on lists of numbers: which of them are code points (ptsOk), their bytes (encI); a part of a text by places (pickL); where code points stand in others, compared one by one (eqTo). No program here. No condition.
-/
import Derived.Test.YtbdamjhgggnihaaDoorCodes
namespace Go.Proofs.YtbdamjhgggnihaaDoor
open Go.Lib hiding intOf

def ptsOk (l : List Int) : Bool := l.all isPt
def encI (l : List Int) : List UInt8 := enc (l.map Int.toNat)
theorem encI_snoc (l : List Int) (c : Int) : encI (l ++ [c]) = encI l ++ ptBytes c.toNat := by unfold encI; rw [List.map_append, enc_append]; simp [enc]
theorem encI_take (l : List Int) (j : Nat) (h : j < l.length) : encI (l.take (j + 1)) = encI (l.take j) ++ ptBytes l[j].toNat := by
  rw [List.take_succ_eq_append_getElem h, encI_snoc]
theorem encI_length (l : List Int) : (encI l).length ≤ 4 * l.length := by
  have := (enc_length (l.map Int.toNat)).2
  rw [List.length_map] at this
  exact this
theorem encI_mono (l : List Int) (j : Nat) : (encI (l.take j)).length ≤ (encI l).length := by
  have e : encI l = encI (l.take j) ++ encI (l.drop j) := by unfold encI; rw [← enc_append, ← List.map_append, List.take_append_drop]
  rw [e, List.length_append]
  omega
theorem ptsOk_no {l : List Int} {c : Int} (h : c ∈ l) (hc : isPt c = false) : ptsOk l = false := by
  unfold ptsOk; rw [List.all_eq_false]; exact ⟨c, h, by simp [hc]⟩
theorem ptsOk_take {l : List Int} {j : Nat} (h : j < l.length) (h1 : ptsOk (l.take j) = true) (h2 : isPt l[j] = true) : ptsOk (l.take (j + 1)) = true := by
  unfold ptsOk at *
  rw [List.take_succ_eq_append_getElem h, List.all_append, h1]
  simp [h2]
/-- what textOf gives -/
def txtI (l : List Int) : List UInt8 := if ptsOk l = true then encI l else []
/-- a list of code points whose text is no longer than 1000 bytes -/
def tofOk (l : List Int) : Bool := ptsOk l && decide ((encI l).length ≤ 1000)
def tofL (l : List Int) : List UInt8 := if tofOk l = true then encI l else []
theorem tofOk_pts {l : List Int} (h : ptsOk l = false) : tofOk l = false ∧ tofL l = [] := by simp [tofOk, tofL, h]
theorem tofOk_long {l : List Int} (h : 1000 < (encI l).length) : tofOk l = false ∧ tofL l = [] := by
  have : ¬ (encI l).length ≤ 1000 := by omega
  simp [tofOk, tofL, this]
theorem tofOk_yes {l : List Int} (h : ptsOk l = true) (h2 : (encI l).length ≤ 1000) : tofOk l = true ∧ tofL l = encI l := by simp [tofOk, tofL, h, h2]

/-- is place i, from 0 on, in the part of ct code points that begins at fr, from 1 on -/
def inP (fr ct : Int) (i : Nat) : Bool := decide (fr ≤ (i : Int) + 1) && decide (0 < ct) && decide ((i : Int) + 1 - ct < fr)
def pickL (fr ct : Int) (r : List Nat) (j : Nat) : List Nat := ((List.range j).filter (inP fr ct)).map (fun i => r.getD i 0)
theorem pickL_zero (fr ct : Int) (r : List Nat) : pickL fr ct r 0 = [] := rfl
theorem pickL_yes {fr ct : Int} {r : List Nat} {j : Nat} (h : j < r.length) (h1 : inP fr ct j = true) : pickL fr ct r (j + 1) = pickL fr ct r j ++ [r[j]] := by
  unfold pickL
  rw [List.range_succ, List.filter_append, List.map_append]
  simp [h1, h]
theorem pickL_no {fr ct : Int} {r : List Nat} {j : Nat} (h1 : inP fr ct j = false) : pickL fr ct r (j + 1) = pickL fr ct r j := by
  unfold pickL
  rw [List.range_succ, List.filter_append]
  simp [h1]
theorem pickL_length (fr ct : Int) (r : List Nat) (j : Nat) : (pickL fr ct r j).length ≤ j := by
  unfold pickL
  rw [List.length_map]
  have := List.length_filter_le (inP fr ct) (List.range j)
  rw [List.length_range] at this
  exact this
theorem pickL_pts {fr ct : Int} {r : List Nat} {j : Nat} (hj : j ≤ r.length) (h : ∀ c ∈ r, isPt (c : Int) = true) : ∀ c ∈ pickL fr ct r j, isPt (c : Int) = true := by
  intro c hc
  unfold pickL at hc
  obtain ⟨i, hi, rfl⟩ := List.mem_map.1 hc
  have h1 := (List.mem_filter.1 hi).1
  rw [List.mem_range] at h1
  have e : r.getD i 0 = r[i] := by simp [show i < r.length by omega]
  show isPt ((r.getD i 0 : Nat) : Int) = true
  rw [e]
  exact h _ (List.getElem_mem _)
theorem pickL_none {fr ct : Int} (h : ct < 1) (r : List Nat) : ∀ j, pickL fr ct r j = []
  | 0 => rfl
  | j + 1 => by
    rw [pickL_no (by unfold inP; rw [decide_eq_false (p := 0 < ct) (by omega)]; simp), pickL_none h r j]
/-- the part of a text; nothing of what is no text -/
def partL (l : List UInt8) (fr ct : Int) : List UInt8 := enc (pickL fr ct (rl l) (rl l).length)

/-- do k code points of b stand in a from place i on -/
def eqTo (a b : List Nat) (i k : Nat) : Bool := (List.range k).all (fun t => a.getD (i + t) 0 == b.getD t 0)
theorem eqTo_succ (a b : List Nat) (i k : Nat) : eqTo a b i (k + 1) = (eqTo a b i k && (a.getD (i + k) 0 == b.getD k 0)) := by
  unfold eqTo
  rw [List.range_succ, List.all_append]
  simp
theorem eqTo_le {a b : List Nat} {i k m : Nat} (h : eqTo a b i k = false) (hk : k ≤ m) : eqTo a b i m = false := by
  unfold eqTo at *
  rw [List.all_eq_false] at *
  obtain ⟨t, ht, h2⟩ := h
  exact ⟨t, by rw [List.mem_range] at *; omega, h2⟩
theorem eqTo_prefix {a b : List Nat} {i : Nat} (h : i + b.length ≤ a.length) : eqTo a b i b.length = true ↔ b <+: a.drop i := by
  unfold eqTo
  rw [List.all_eq_true, List.prefix_iff_eq_take]
  constructor
  · intro h1
    apply List.ext_getElem
    · rw [List.length_take, List.length_drop]; omega
    · intro t h2 h3
      have h4 := h1 t (List.mem_range.2 h2)
      rw [beq_iff_eq] at h4
      rw [List.getElem_take, List.getElem_drop]
      have e1 : a.getD (i + t) 0 = a[i + t]'(by omega) := by simp [show i + t < a.length by omega]
      have e2 : b.getD t 0 = b[t] := by simp [h2]
      rw [e1, e2] at h4
      exact h4.symm
  · intro h1 t ht
    rw [List.mem_range] at ht
    rw [beq_iff_eq]
    have e1 : a.getD (i + t) 0 = a[i + t]'(by omega) := by simp [show i + t < a.length by omega]
    have e2 : b.getD t 0 = b[t] := by simp [ht]
    rw [e1, e2]
    have e3 : b[t]? = ((a.drop i).take b.length)[t]? := by rw [← h1]
    rw [List.getElem?_eq_getElem ht, List.getElem?_take_of_lt ht, List.getElem?_drop, List.getElem?_eq_getElem (by omega)] at e3
    simpa using e3.symm
theorem prefix_room {a b : List Nat} {j : Nat} (h : b <+: a.drop j) (hb : b ≠ []) : j + b.length ≤ a.length := by
  have h1 := h.length_le
  rw [List.length_drop] at h1
  have h2 : 0 < b.length := List.length_pos_iff.2 hb
  omega
end Go.Proofs.YtbdamjhgggnihaaDoor

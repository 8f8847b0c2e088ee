/-
  An automaton that came in, as a law's frame is told of it, and what its walk takes of that. No condition.
-/
import Derived.Test.YtobpecgecopdnaaDoorNfaL
import Derived.Deep.Slices
import Derived.ChangeSame
import Derived.Deep.Strs
namespace Go.Proofs.YtobpecgecopdnaaDoor
open Go.RowKit Go.ChangeShapes Go.WideShapes
set_option linter.unusedVariables false
set_option linter.unusedSimpArgs false

instance : Inhabited OpQ := ⟨⟨0, 0, 0, false, none, 0, 0, []⟩⟩
/-- what a law's frame is told of a slice of operations that came in -/
def IsOps (w : World) (a : Option Addr) (len : Nat) (Q : List OpQ) : Prop := OpR w a Q ∧ Q.length = len ∧ len ≤ maxLen ∧ ∀ q ∈ Q, q.sl ≤ maxLen
theorem wf64 {x : Int} (h : (Lit.int .i64 x).wf = true) : Op64 x := by
  simp [Lit.wf] at h
  have e1 : IntKind.i64.min = -9223372036854775808 := by rfl
  try rw [e1] at h
  exact ⟨h.1, h.2⟩
set_option maxRecDepth 100000 in
/-- one operation -/
theorem open_op {H : Type} {enc : TypeId × Value → H} {w : World} {base fuel : Nat} {held : Bool} {cs : List Value} {x : DataW H × List MemPlace}
    (h : DataW.trod enc Tryd.prog w base (fun _ => true) held fuel 74 cs = some x) : ∃ q : OpQ, cs = [.int .i64 q.op, .int .i64 q.a, .int .i64 q.b, .bool q.neg, .slice q.sa q.sl q.sc] ∧ OpFine w q ∧ q.sl ≤ maxLen := by
  obtain ⟨xs, n, _, rfl, hl, hlen, hf⟩ := DataW.trod_struct Tryd.underlying74 h
  have hl5 : cs.length = 5 := by rw [hl]; kernel_rfl
  match cs, hl5 with
  | [c0, c1, c2, c3, c4], _ =>
  match xs, hlen with
  | [y0, y1, y2, y3, y4], _ =>
  have e1 : Tryd.prog.cellsOf 3 = 1 := by kernel_rfl
  have e2 : Tryd.prog.cellsOf 4 = 1 := by kernel_rfl
  have e3 : Tryd.prog.cellsOf 49 = 1 := by kernel_rfl
  have h0 := hf 0 _ rfl
  have h1 := hf 1 _ rfl
  have h2 := hf 2 _ rfl
  have h3 := hf 3 _ rfl
  have h4 := hf 4 _ rfl
  simp [e1, e2, e3] at h0 h1 h2 h3 h4
  obtain ⟨n0, q0, -, w0⟩ := DataW.trod_int Tryd.underlying3 h0
  obtain ⟨n1, q1, -, w1⟩ := DataW.trod_int Tryd.underlying3 h1
  obtain ⟨n2, q2, -, w2⟩ := DataW.trod_int Tryd.underlying3 h2
  obtain ⟨b3, q3, -⟩ := DataW.trod_bool Tryd.underlying4 h3
  simp at q0 q1 q2 q3
  subst q0 q1 q2 q3
  rcases open_ints Tryd.underlying49 Tryd.underlying3 (by kernel_rfl) h4 with ⟨hcs, _⟩ | ⟨a, l, c, zs, hcs, _, hl4, hm, hz, _, hcell, hwz⟩
  · have hv : c4 = .slice none 0 0 := by simpa using hcs
    subst hv
    exact ⟨⟨n0, n1, n2, b3, none, 0, 0, []⟩, rfl, ⟨.inl rfl, rfl, Nat.le_refl _, wf64 w0, wf64 w1, wf64 w2, fun x hx => by simp at hx⟩, Nat.zero_le _⟩
  · have hv : c4 = .slice (some a) l c := by simpa using hcs
    subst hv
    obtain ⟨r1, r2, r3, r4⟩ := isRow_row (k := .i64) (.inr ⟨a, rfl, hl4, hm, by simpa using hz, hcell, hwz⟩ : IsRow .i64 w (some a) l c zs)
    exact ⟨⟨n0, n1, n2, b3, some a, l, c, zs.take l⟩, rfl, ⟨r1, r2, hl4, wf64 w0, wf64 w1, wf64 w2, fun x hx => wf64 (r4 x hx)⟩, r3⟩
set_option maxRecDepth 100000 in
theorem open_ops {H : Type} {enc : TypeId × Value → H} {w : World} {base fuel : Nat} {held : Bool} {cs : List Value} {x : DataW H × List MemPlace}
    (h : DataW.trod enc Tryd.prog w base (fun _ => true) held fuel 24 cs = some x) : ∃ a len cap Q, cs = [.slice a len cap] ∧ IsOps w a len Q := by
  rcases Go.Deep.open_slice Tryd.underlying24 h with ⟨hcs, _⟩ | ⟨a, len, cap, m, n, D, Pl, hcs, _, hl, hm, hmm, _, hV⟩
  · exact ⟨none, 0, 0, [], hcs, ⟨.inl rfl, fun q hq => by simp at hq⟩, rfl, Nat.zero_le _, fun n hn => by simp at hn⟩
  · have hm2 : m = cap := by simpa using hmm
    subst hm2
    have e5 : Tryd.prog.cellsOf 74 = 5 := by kernel_rfl
    rw [e5] at hV
    have hex : ∀ i, i < len → ∃ q : OpQ, (w.cell? (a.add (i * 5)) = some (.int .i64 q.op) ∧ w.cell? (a.add (i * 5 + 1)) = some (.int .i64 q.a) ∧ w.cell? (a.add (i * 5 + 2)) = some (.int .i64 q.b) ∧ w.cell? (a.add (i * 5 + 3)) = some (.bool q.neg) ∧ w.cell? (a.add (i * 5 + 4)) = some (.slice q.sa q.sl q.sc)) ∧ OpFine w q ∧ q.sl ≤ maxLen := fun i hi => by
      obtain ⟨cs', h1, h2⟩ := hV i (by omega)
      obtain ⟨q, rfl, h3, h4⟩ := open_op h2
      obtain ⟨_, _, h6⟩ := World.cells?_some h1
      have ha (j : Nat) : (a.add (i * 5)).add j = a.add (i * 5 + j) := by
        by_cases hj : j = 0
        · subst hj; simp [Addr.add]
        · by_cases h0 : i * 5 = 0
          · rw [h0]; simp [Addr.add, hj]
          · simp [Addr.add, hj, h0, Nat.add_assoc]
      have c0 := h6 0 (by omega)
      have c1 := h6 1 (by omega)
      have c2 := h6 2 (by omega)
      have c3 := h6 3 (by omega)
      have c4 := h6 4 (by omega)
      rw [ha] at c0 c1 c2 c3 c4
      exact ⟨q, ⟨c0, c1, c2, c3, c4⟩, h3, h4⟩
    obtain ⟨F, hF⟩ := Go.Deep.choose_lt hex
    have hq : ∀ q ∈ (List.range len).map F, OpFine w q ∧ q.sl ≤ maxLen := fun q hq => by
      obtain ⟨i, hi, rfl⟩ := List.mem_map.1 hq
      exact (hF i (List.mem_range.1 hi)).2
    refine ⟨some a, len, m, (List.range len).map F, hcs, ⟨?_, fun q h => (hq q h).1⟩, by simp, by omega, fun q h => (hq q h).2⟩
    by_cases h0 : len = 0
    · left; subst h0; rfl
    · right
      obtain ⟨b, off, spot⟩ := a
      have hc0 := (hF 0 (by omega)).1.1
      have hspot : spot = none := by simpa [Addr.add] using World.cell?_spot hc0
      subst hspot
      refine ⟨b, off, rfl, cell_lt (by simpa [Addr.add] using hc0), fun i hi => ?_⟩
      rw [List.length_map, List.length_range] at hi
      have e : ((List.range len).map F)[i]'(by simpa using hi) = F i := by simp
      rw [e]
      have h5 := (hF i hi).1
      have e0 : (⟨b, off, none⟩ : Addr).add (i * 5) = ⟨b, off + i * 5, none⟩ := by
        by_cases h9 : i * 5 = 0
        · rw [h9]; simp [Addr.add]
        · simp [Addr.add, h9]
      rw [e0] at h5
      simpa [OpCells, Addr.add, Nat.add_assoc] using h5
set_option maxRecDepth 100000 in
theorem open_nfa {r : Reach} {b0 : Nat} {H : Type} {enc : TypeId × Value → H} {w : World} {base : Nat} {held : Bool} {v : Value} {d : DataW H} {p : List MemPlace}
    (hv : Value.okWide Tryd.prog w r b0 26 v) (h : DataW.Trod enc Tryd.prog w base (fun _ => true) held 26 v d p) : ∃ a len cap Q, v = .agg #[.slice a len cap] ∧ IsOps w a len Q := by
  obtain ⟨cs, rfl, hsz⟩ := okWide_struct Tryd.underlying26 hv
  have hs1 : cs.size = 1 := by rw [hsz]; kernel_rfl
  obtain ⟨fuel, hf⟩ := h
  obtain ⟨y0, n2, _, _, h3⟩ := trod_struct1 Tryd.underlying26 hf
  obtain ⟨cl⟩ := cs
  match cl, hs1 with
  | [c0], _ =>
  have e : (([c0] : List Value).drop 0).take (Tryd.prog.cellsOf 24) = [c0] := by
    rw [show Tryd.prog.cellsOf 24 = 1 by kernel_rfl]; rfl
  have h4 : DataW.trod enc Tryd.prog w base (fun _ => true) held n2 24 [c0] = some y0 := by
    have h5 := h3
    simp only [Value.cells] at h5
    rw [e] at h5
    exact h5
  obtain ⟨a, len, cap, Q, hc, hI⟩ := open_ops h4
  have hc0 : c0 = .slice a len cap := by simpa using hc
  subst hc0
  exact ⟨a, len, cap, Q, rfl, hI⟩
end Go.Proofs.YtobpecgecopdnaaDoor

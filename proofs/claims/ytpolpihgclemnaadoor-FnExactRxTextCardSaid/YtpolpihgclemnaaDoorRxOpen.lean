/-
  A pattern that came in, as a law's frame is told of it, and what its walk takes of that. No condition.
-/
import Derived.Test.YtpolpihgclemnaaDoorRxL
import Derived.Deep.Slices
import Derived.ChangeSame
import Derived.Deep.Strs
namespace Go.Proofs.YtpolpihgclemnaaDoor
open Go.RowKit Go.ChangeShapes Go.WideShapes
set_option linter.unusedVariables false
set_option linter.unusedSimpArgs false

instance : Inhabited NdQ := ⟨⟨0, 0, 0, false, none, 0, 0, [], none, 0, 0, []⟩⟩
/-- what a law's frame is told of a slice of nodes that came in -/
def IsNds (w : World) (a : Option Addr) (len : Nat) (Q : List NdQ) : Prop := NdR w a Q ∧ Q.length = len ∧ len ≤ maxLen ∧ ∀ q ∈ Q, q.sl ≤ maxLen ∧ q.kl ≤ maxLen
theorem wfNd {x : Int} (h : (Lit.int .i64 x).wf = true) : Nd64 x := by
  simp [Lit.wf] at h
  have e1 : IntKind.i64.min = -9223372036854775808 := by rfl
  try rw [e1] at h
  exact ⟨h.1, h.2⟩
/-- one of its own rows -/
theorem open_own {H : Type} {enc : TypeId × Value → H} {w : World} {base fuel : Nat} {held : Bool} {c : Value} {x : DataW H × List MemPlace}
    (h : DataW.trod enc Tryd.prog w base (fun _ => true) held fuel 36 [c] = some x) : ∃ a l cc zs, c = .slice a l cc ∧ RowI .i64 w a zs ∧ zs.length = l ∧ l ≤ cc ∧ (∀ x ∈ zs, Nd64 x) ∧ l ≤ maxLen := by
  rcases open_ints Tryd.underlying36 Tryd.underlying3 (by kernel_rfl) h with ⟨hcs, _⟩ | ⟨a, l, cc, zs, hcs, _, hl4, hm, hz, _, hcell, hwz⟩
  · have hv : c = .slice none 0 0 := by simpa using hcs
    exact ⟨none, 0, 0, [], hv, .inl rfl, rfl, Nat.le_refl _, fun x hx => by simp at hx, Nat.zero_le _⟩
  · have hv : c = .slice (some a) l cc := by simpa using hcs
    obtain ⟨r1, r2, r3, r4⟩ := isRow_row (k := .i64) (.inr ⟨a, rfl, hl4, hm, by simpa using hz, hcell, hwz⟩ : IsRow .i64 w (some a) l cc zs)
    exact ⟨some a, l, cc, zs.take l, hv, r1, r2, hl4, fun x hx => wfNd (r4 x hx), r3⟩
/-- one node -/
theorem open_nd {H : Type} {enc : TypeId × Value → H} {w : World} {base fuel : Nat} {held : Bool} {cs : List Value} {x : DataW H × List MemPlace}
    (h : DataW.trod enc Tryd.prog w base (fun _ => true) held fuel 47 cs = some x) : ∃ q : NdQ, cs = [.int .i64 q.op, .int .i64 q.a, .int .i64 q.b, .bool q.neg, .slice q.sa q.sl q.sc, .slice q.ka q.kl q.kc] ∧ NdFine w q ∧ q.sl ≤ maxLen ∧ q.kl ≤ maxLen := by
  obtain ⟨xs, n, _, rfl, hl, hlen, hf⟩ := DataW.trod_struct Tryd.underlying47 h
  have hl6 : cs.length = 6 := by rw [hl]; kernel_rfl
  match cs, hl6 with
  | [c0, c1, c2, c3, c4, c5], _ =>
  match xs, hlen with
  | [y0, y1, y2, y3, y4, y5], _ =>
  have e1 : Tryd.prog.cellsOf 3 = 1 := by kernel_rfl
  have e2 : Tryd.prog.cellsOf 4 = 1 := by kernel_rfl
  have e3 : Tryd.prog.cellsOf 36 = 1 := by kernel_rfl
  have h0 := hf 0 _ rfl
  have h1 := hf 1 _ rfl
  have h2 := hf 2 _ rfl
  have h3 := hf 3 _ rfl
  have h4 := hf 4 _ rfl
  have h5 := hf 5 _ rfl
  simp [e1, e2, e3] at h0 h1 h2 h3 h4 h5
  obtain ⟨n0, q0, -, w0⟩ := DataW.trod_int Tryd.underlying3 h0
  obtain ⟨n1, q1, -, w1⟩ := DataW.trod_int Tryd.underlying3 h1
  obtain ⟨n2, q2, -, w2⟩ := DataW.trod_int Tryd.underlying3 h2
  obtain ⟨b3, q3, -⟩ := DataW.trod_bool Tryd.underlying4 h3
  simp at q0 q1 q2 q3
  subst q0 q1 q2 q3
  obtain ⟨sa, sl, sc, set, rfl, s1, s2, s3, s4, s5⟩ := open_own h4
  obtain ⟨ka, kl, kc, kids, rfl, k1, k2, k3, k4, k5⟩ := open_own h5
  exact ⟨⟨n0, n1, n2, b3, sa, sl, sc, set, ka, kl, kc, kids⟩, rfl, ⟨⟨s1, k1⟩, ⟨s2, k2⟩, ⟨s3, k3⟩, wfNd w0, wfNd w1, wfNd w2, s4, k4⟩, s5, k5⟩
theorem open_nds {H : Type} {enc : TypeId × Value → H} {w : World} {base fuel : Nat} {held : Bool} {cs : List Value} {x : DataW H × List MemPlace}
    (h : DataW.trod enc Tryd.prog w base (fun _ => true) held fuel 22 cs = some x) : ∃ a len cap Q, cs = [.slice a len cap] ∧ IsNds w a len Q := by
  rcases Go.Deep.open_slice Tryd.underlying22 h with ⟨hcs, _⟩ | ⟨a, len, cap, m, n, D, Pl, hcs, _, hl, hm, hmm, _, hV⟩
  · exact ⟨none, 0, 0, [], hcs, ⟨.inl rfl, fun q hq => by simp at hq⟩, rfl, Nat.zero_le _, fun n hn => by simp at hn⟩
  · have hm2 : m = cap := by simpa using hmm
    subst hm2
    have e5 : Tryd.prog.cellsOf 47 = 6 := by kernel_rfl
    rw [e5] at hV
    have hex : ∀ i, i < len → ∃ q : NdQ, (w.cell? (a.add (i * 6)) = some (.int .i64 q.op) ∧ w.cell? (a.add (i * 6 + 1)) = some (.int .i64 q.a) ∧ w.cell? (a.add (i * 6 + 2)) = some (.int .i64 q.b) ∧ w.cell? (a.add (i * 6 + 3)) = some (.bool q.neg) ∧ w.cell? (a.add (i * 6 + 4)) = some (.slice q.sa q.sl q.sc) ∧ w.cell? (a.add (i * 6 + 5)) = some (.slice q.ka q.kl q.kc)) ∧ NdFine w q ∧ (q.sl ≤ maxLen ∧ q.kl ≤ maxLen) := fun i hi => by
      obtain ⟨cs', h1, h2⟩ := hV i (by omega)
      obtain ⟨q, rfl, h3, h4⟩ := open_nd h2
      obtain ⟨_, _, h6⟩ := World.cells?_some h1
      have ha (j : Nat) : (a.add (i * 6)).add j = a.add (i * 6 + j) := by
        by_cases hj : j = 0
        · subst hj; simp [Addr.add]
        · by_cases h0 : i * 6 = 0
          · rw [h0]; simp [Addr.add, hj]
          · simp [Addr.add, hj, h0, Nat.add_assoc]
      have c0 := h6 0 (by omega)
      have c1 := h6 1 (by omega)
      have c2 := h6 2 (by omega)
      have c3 := h6 3 (by omega)
      have c4 := h6 4 (by omega)
      have c5 := h6 5 (by omega)
      rw [ha] at c0 c1 c2 c3 c4 c5
      exact ⟨q, ⟨c0, c1, c2, c3, c4, c5⟩, h3, h4⟩
    obtain ⟨F, hF⟩ := Go.Deep.choose_lt hex
    have hq : ∀ q ∈ (List.range len).map F, NdFine w q ∧ (q.sl ≤ maxLen ∧ q.kl ≤ maxLen) := fun q hq => by
      obtain ⟨i, hi, rfl⟩ := List.mem_map.1 hq
      exact (hF i (List.mem_range.1 hi)).2
    refine ⟨some a, len, m, (List.range len).map F, hcs, ⟨?_, fun q h => (hq q h).1⟩, by simp, by omega, fun q h => (hq q h).2⟩
    by_cases h0 : len = 0
    · left; subst h0; rfl
    · right
      obtain ⟨b, off, spot⟩ := a
      have hc0 := (hF 0 (by omega)).1.1
      have hspot : spot = none := by simpa [Addr.add] using World.cell?_spot hc0
      subst hspot
      refine ⟨b, off, rfl, cell_lt (by simpa [Addr.add] using hc0), fun i hi => ?_⟩
      rw [List.length_map, List.length_range] at hi
      have e : ((List.range len).map F)[i]'(by simpa using hi) = F i := by simp
      rw [e]
      have h5 := (hF i hi).1
      have e0 : (⟨b, off, none⟩ : Addr).add (i * 6) = ⟨b, off + i * 6, none⟩ := by
        by_cases h9 : i * 6 = 0
        · rw [h9]; simp [Addr.add]
        · simp [Addr.add, h9]
      rw [e0] at h5
      simpa [NdCells, Addr.add, Nat.add_assoc] using h5
theorem open_rx {r : Reach} {b0 : Nat} {H : Type} {enc : TypeId × Value → H} {w : World} {base : Nat} {held : Bool} {v : Value} {d : DataW H} {p : List MemPlace}
    (hv : Value.okWide Tryd.prog w r b0 24 v) (h : DataW.Trod enc Tryd.prog w base (fun _ => true) held 24 v d p) : ∃ a len cap Q, v = .agg #[.slice a len cap] ∧ IsNds w a len Q := by
  obtain ⟨cs, rfl, hsz⟩ := okWide_struct Tryd.underlying24 hv
  have hs1 : cs.size = 1 := by rw [hsz]; kernel_rfl
  obtain ⟨fuel, hf⟩ := h
  obtain ⟨y0, n2, _, _, h3⟩ := trod_struct1 Tryd.underlying24 hf
  obtain ⟨cl⟩ := cs
  match cl, hs1 with
  | [c0], _ =>
  have e : (([c0] : List Value).drop 0).take (Tryd.prog.cellsOf 22) = [c0] := by
    rw [show Tryd.prog.cellsOf 22 = 1 by kernel_rfl]; rfl
  have h4 : DataW.trod enc Tryd.prog w base (fun _ => true) held n2 22 [c0] = some y0 := by
    have h5 := h3
    simp only [Value.cells] at h5
    rw [e] at h5
    exact h5
  obtain ⟨a, len, cap, Q, hc, hI⟩ := open_nds h4
  have hc0 : c0 = .slice a len cap := by simpa using hc
  subst hc0
  exact ⟨a, len, cap, Q, rfl, hI⟩
end Go.Proofs.YtpolpihgclemnaaDoor

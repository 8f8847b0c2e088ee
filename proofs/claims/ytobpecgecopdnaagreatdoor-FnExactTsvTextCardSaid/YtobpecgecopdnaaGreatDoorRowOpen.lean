/-
  A slice of rows that came in, as a law's frame is told of it, and what its walk takes of that. No condition.
-/
import Derived.Test.YtobpecgecopdnaaGreatDoorRowL
import Derived.Deep.Slices
import Derived.ChangeSame
import Derived.SliceStrings
namespace Go.Proofs.YtobpecgecopdnaaGreatDoor
open Go.RowKit Go.ChangeShapes Go.WideShapes
set_option linter.unusedVariables false
set_option linter.unusedSimpArgs false

instance : Inhabited RowQ := ⟨⟨none, 0, 0, []⟩⟩
/-- what a law's frame is told of a slice of rows that came in -/
def IsRows (w : World) (a : Option Addr) (len cap : Nat) (Q : List RowQ) : Prop :=
  (a = none ∧ len = 0 ∧ cap = 0 ∧ Q = []) ∨
  ∃ x, a = some x ∧ len ≤ cap ∧ cap ≤ maxLen ∧ Q.length = cap ∧ ∀ q : Nat, (h : q < Q.length) → w.cell? (x.add q) = some (Q[q]).v ∧ ∃ full, IsStrs w (Q[q]).a (Q[q]).l (Q[q]).c full ∧ (Q[q]).ss = full.take (Q[q]).l

theorem isRows_row {w : World} {a : Option Addr} {len cap : Nat} {Q : List RowQ} (h : IsRows w a len cap Q) :
    RowR w a (Q.take len) ∧ (Q.take len).length = len ∧ len ≤ maxLen ∧ ∀ q ∈ Q.take len, q.l ≤ maxLen ∧ ∀ s ∈ q.ss, s.size ≤ maxLen := by
  rcases h with ⟨rfl, rfl, rfl, rfl⟩ | ⟨x, rfl, hl, hm, hz, hc⟩
  · exact ⟨⟨.inl rfl, fun q hq => by simp at hq⟩, rfl, Nat.zero_le _, fun n hn => by simp at hn⟩
  · have hlen : (Q.take len).length = len := by rw [List.length_take]; omega
    have hall : ∀ q ∈ Q, (RowS w q.a q.ss ∧ q.ss.length = q.l ∧ q.l ≤ q.c) ∧ q.l ≤ maxLen ∧ ∀ s ∈ q.ss, s.size ≤ maxLen := fun q hq => by
      obtain ⟨i, hi, rfl⟩ := List.getElem_of_mem hq
      obtain ⟨_, full, h1, h2⟩ := hc i hi
      have hcap : (Q[i]).l ≤ (Q[i]).c := by
        rcases h1 with ⟨_, e1, e2, _⟩ | ⟨_, _, e1, _⟩
        · omega
        · exact e1
      obtain ⟨r1, r2, r3, r4⟩ := isStrs_row h1
      rw [← h2] at r1 r2 r4
      exact ⟨⟨r1, r2, hcap⟩, r3, r4⟩
    refine ⟨⟨?_, fun q hq => (hall q (List.mem_of_mem_take hq)).1⟩, hlen, by omega, fun q hq => (hall q (List.mem_of_mem_take hq)).2⟩
    by_cases h0 : len = 0
    · left; subst h0; rfl
    · right
      obtain ⟨b, off, spot⟩ := x
      have hc0 := (hc 0 (by omega)).1
      have hspot : spot = none := by simpa [Addr.add] using World.cell?_spot hc0
      subst hspot
      refine ⟨b, off, rfl, cell_lt (by simpa [Addr.add] using hc0), fun i hi => ?_⟩
      have := (hc i (by omega)).1
      rw [show (⟨b, off + i, none⟩ : Addr) = (⟨b, off, none⟩ : Addr).add i by simp [Addr.add], this]
      rw [List.getElem_take]

theorem open_rows {H : Type} {enc : TypeId × Value → H} {w : World} {base fuel : Nat} {held : Bool} {cs : List Value} {x : DataW H × List MemPlace}
    (h : DataW.trod enc Tryz.prog w base (fun _ => true) held fuel 22 cs = some x) : ∃ a len cap Q, cs = [.slice a len cap] ∧ IsRows w a len cap Q := by
  rcases Go.Deep.open_slice1 Tryz.underlying22 (by kernel_rfl) h with ⟨hcs, _⟩ | ⟨a, len, cap, m, n, V, D, Pl, hcs, _, hl, hm, hmm, _, hV⟩
  · exact ⟨none, 0, 0, [], hcs, .inl ⟨rfl, rfl, rfl, rfl⟩⟩
  · have hm2 : m = cap := by simpa using hmm
    subst hm2
    have hex : ∀ i, i < m → ∃ q : RowQ, w.cell? (a.add i) = some q.v ∧ ∃ full, IsStrs w q.a q.l q.c full ∧ q.ss = full.take q.l := fun i hi => by
      obtain ⟨h1, h2⟩ := hV i hi
      obtain ⟨y0, n2, _, _, h3⟩ := trod_struct1 Tryz.underlying33 h2
      have e : (([V i] : List Value).drop 0).take (Tryz.prog.cellsOf 31) = [V i] := by
        rw [show Tryz.prog.cellsOf 31 = 1 by kernel_rfl]; rfl
      have h4 : DataW.trod enc Tryz.prog w base (fun _ => true) held n2 31 [V i] = some y0 := by
        have h5 := h3
        rw [e] at h5
        exact h5
      rcases open_strings Tryz.underlying31 Tryz.underlying9 (by kernel_rfl) h4 with ⟨hc2, _⟩ | ⟨x2, l2, c2, ss, hc2, _, hl2, hm3, hz, _, hcell, hsz⟩
      · have hv : V i = .slice none 0 0 := by simpa using hc2
        exact ⟨⟨none, 0, 0, []⟩, by rw [h1, hv]; rfl, [], .inl ⟨rfl, rfl, rfl, rfl⟩, rfl⟩
      · have hv : V i = .slice (some x2) l2 c2 := by simpa using hc2
        exact ⟨⟨some x2, l2, c2, ss.take l2⟩, by rw [h1, hv]; rfl, ss, .inr ⟨x2, rfl, hl2, hm3, by simpa using hz, hcell, hsz⟩, rfl⟩
    obtain ⟨F, hF⟩ := Go.Deep.choose_lt hex
    refine ⟨some a, len, m, (List.range m).map F, hcs, .inr ⟨a, rfl, hl, hm, by simp, fun i hi => ?_⟩⟩
    rw [List.length_map, List.length_range] at hi
    have e : ((List.range m).map F)[i]'(by simpa using hi) = F i := by simp
    rw [e]
    exact hF i hi
end Go.Proofs.YtobpecgecopdnaaGreatDoor

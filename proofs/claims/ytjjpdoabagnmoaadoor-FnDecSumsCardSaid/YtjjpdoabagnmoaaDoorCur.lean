/-
  The contracts of the cursor that the draws read their code by: what it hands out lies in range; nothing but its own block is written. Conditions: the cursor stands at a block of its own, the code below it.
-/
import Derived.Test.YtjjpdoabagnmoaaDoorInts
import Derived.Test.YtjjpdoabagnmoaaDoorOwns
import Derived.WalkKit
import Derived.WalkLawsBesides
import Derived.WalkSpells
import Derived.BigQuiet
import Derived.Deep.Light
import Derived.Deep.QuietTactic
import Derived.WalkSmall
import Derived.ProofKit
import Derived.Deep.DeepMust
namespace Go.Proofs.YtjjpdoabagnmoaaDoor
open Go.RowKit
set_option linter.unusedVariables false
set_option linter.unusedSimpArgs false

/-- nothing but block p may have turned -/
structure Only (p : Nat) (w w' : World) : Prop where
  os : w'.os = w.os
  tape : w'.tape = w.tape
  output : w'.output = w.output
  size : w'.heap.size = w.heap.size
  block : ∀ k, k ≠ p → w'.heap[k]? = w.heap[k]?
theorem Only.refl (p : Nat) (w : World) : Only p w w := ⟨rfl, rfl, rfl, rfl, fun _ _ => rfl⟩
theorem Only.trans {p : Nat} {a b c : World} (h : Only p a b) (k : Only p b c) : Only p a c :=
  ⟨k.os.trans h.os, k.tape.trans h.tape, k.output.trans h.output, k.size.trans h.size, fun i hi => (k.block i hi).trans (h.block i hi)⟩
theorem Only.below {p B : Nat} {w w' : World} (h : Only p w w') (hB : B ≤ p) : Below B w w' :=
  ⟨h.os, h.tape, h.output, Nat.le_of_eq h.size.symm, fun k hk => h.block k (by omega)⟩
theorem Only.drewN {p : Nat} {w w' : World} (h : Only p w w') (n : Nat) : Only p w (w'.drewN n) := ⟨h.os, h.tape, h.output, h.size, h.block⟩
theorem Only.setCell {p : Nat} {w w' : World} (h : Only p w w') (o : Nat) (v : Value) : Only p w (w'.setCell ⟨p, o, none⟩ v) := by
  refine ⟨h.os, h.tape, h.output, by simpa [World.setCell] using h.size, fun k hk => ?_⟩
  rw [← h.block k hk]
  simp [World.setCell, Array.getElem?_modify]
  intro e; exact absurd e.symm hk
theorem Only.cell {p : Nat} {w w' : World} (h : Only p w w') {b o : Nat} (hb : b ≠ p) : w'.cell? ⟨b, o, none⟩ = w.cell? ⟨b, o, none⟩ := by
  unfold World.cell?; rw [h.block b hb]
theorem Only.frozen {p : Nat} {w w' : World} (h : Only p w w') {b o : Nat} (hb : b ≠ p) : w'.frozen? ⟨b, o, none⟩ = w.frozen? ⟨b, o, none⟩ := by
  unfold World.frozen?; rw [h.block b hb]

/-- a cursor at block p over a row of len bytes -/
structure Cur (w : World) (p : Nat) (a : Option Addr) (len cap at' seed : Nat) : Prop where
  c0 : w.cell? ⟨p, 0, none⟩ = some (.slice a len cap)
  c1 : w.cell? ⟨p, 1, none⟩ = some (.int .i64 (at' : Int))
  c2 : w.cell? ⟨p, 2, none⟩ = some (.int .i64 (seed : Int))
  f1 : w.frozen? ⟨p, 1, none⟩ = false
  f2 : w.frozen? ⟨p, 2, none⟩ = false
  row : len = 0 ∨ ∃ b off, a = some ⟨b, off, none⟩ ∧ b < p ∧ ∀ i, i < len → ∃ c : Nat, c < 256 ∧ w.cell? ⟨b, off + i, none⟩ = some (.int .u8 (c : Int))
  seed_lt : seed < 70000
  len_le : len ≤ 1099511627776

theorem Cur.drewN {w : World} {p : Nat} {a : Option Addr} {len cap at' seed : Nat} (h : Cur w p a len cap at' seed) (n : Nat) : Cur (w.drewN n) p a len cap at' seed :=
  ⟨h.c0, h.c1, h.c2, h.f1, h.f2, h.row, h.seed_lt, h.len_le⟩
theorem Cur.move {w : World} {p : Nat} {a : Option Addr} {len cap at' seed : Nat} (h : Cur w p a len cap at' seed) (x : Nat) : Cur (w.setCell ⟨p, 1, none⟩ (.int .i64 (x : Int))) p a len cap x seed := by
  refine ⟨?_, ?_, ?_, ?_, ?_, ?_, h.seed_lt, h.len_le⟩
  · rw [World.cell?_setCell_other _ _ _ _ (by rintro ⟨⟩)]; exact h.c0
  · exact World.cell?_setCell_same' _ _ _ (by rw [h.c1]; rfl)
  · rw [World.cell?_setCell_other _ _ _ _ (by rintro ⟨⟩)]; exact h.c2
  · rw [World.frozen?_setCell]; exact h.f1
  · rw [World.frozen?_setCell]; exact h.f2
  · rcases h.row with h0 | ⟨b, off, r1, r2, r3⟩
    · exact .inl h0
    · refine .inr ⟨b, off, r1, r2, fun i hi => ?_⟩
      obtain ⟨c, hc, e⟩ := r3 i hi
      exact ⟨c, hc, by rw [World.cell?_setCell_other _ _ _ _ (by intro e; have e' := congrArg Addr.block e; simp at e'; omega)]; exact e⟩
theorem Cur.sow {w : World} {p : Nat} {a : Option Addr} {len cap at' seed : Nat} (h : Cur w p a len cap at' seed) (x : Nat) (hx : x < 70000) : Cur (w.setCell ⟨p, 2, none⟩ (.int .i64 (x : Int))) p a len cap at' x := by
  refine ⟨?_, ?_, ?_, ?_, ?_, ?_, hx, h.len_le⟩
  · rw [World.cell?_setCell_other _ _ _ _ (by rintro ⟨⟩)]; exact h.c0
  · rw [World.cell?_setCell_other _ _ _ _ (by rintro ⟨⟩)]; exact h.c1
  · exact World.cell?_setCell_same' _ _ _ (by rw [h.c2]; rfl)
  · rw [World.frozen?_setCell]; exact h.f1
  · rw [World.frozen?_setCell]; exact h.f2
  · rcases h.row with h0 | ⟨b, off, r1, r2, r3⟩
    · exact .inl h0
    · refine .inr ⟨b, off, r1, r2, fun i hi => ?_⟩
      obtain ⟨c, hc, e⟩ := r3 i hi
      exact ⟨c, hc, by rw [World.cell?_setCell_other _ _ _ _ (by intro e; have e' := congrArg Addr.block e; simp at e'; omega)]; exact e⟩
/-- a call that leaves all that stood below leaves the cursor -/
theorem Cur.below {w w' : World} {p B : Nat} {a : Option Addr} {len cap at' seed : Nat} (h : Cur w p a len cap at' seed) (hb : Below B w w') (hp : p < B) : Cur w' p a len cap at' seed := by
  refine ⟨?_, ?_, ?_, ?_, ?_, ?_, h.seed_lt, h.len_le⟩
  · rw [hb.cell (p := ⟨p, 0, none⟩) hp]; exact h.c0
  · rw [hb.cell (p := ⟨p, 1, none⟩) hp]; exact h.c1
  · rw [hb.cell (p := ⟨p, 2, none⟩) hp]; exact h.c2
  · rw [hb.frozen (p := ⟨p, 1, none⟩) hp]; exact h.f1
  · rw [hb.frozen (p := ⟨p, 2, none⟩) hp]; exact h.f2
  · rcases h.row with h0 | ⟨b, off, r1, r2, r3⟩
    · exact .inl h0
    · refine .inr ⟨b, off, r1, r2, fun i hi => ?_⟩
      obtain ⟨c, hc, e⟩ := r3 i hi
      exact ⟨c, hc, by rw [hb.cell (p := ⟨b, off + i, none⟩) (Nat.lt_trans r2 hp)]; exact e⟩

theorem wrap_seventh (s : Nat) (h : s ≤ 70000) : ∃ q : Nat, q ≤ 70000 ∧ IntKind.i64.wrap ((s : Int) / 7) = (q : Int) :=
  ⟨s / 7, by omega, by rw [IntWalk.i64_in _ (by omega)]; omega⟩
theorem wrap_sum (s c : Nat) (h : s ≤ 70000) (hc : c < 256) : ∃ q : Nat, q ≤ 80000 ∧ IntKind.i64.wrap ((s : Int) + (c : Int)) = (q : Int) :=
  ⟨s + c, by omega, by rw [IntWalk.i64_in _ (by omega)]; omega⟩
/-- what a pick leaves -/
def Picked (p : Nat) (a : Option Addr) (len cap at' n : Nat) (w : World) (e : Ending) (w' : World) : Prop :=
  ∃ x at2 seed2 : Nat, e = .returned (.int .i64 (x : Int)) ∧ (x = 0 ∨ x < n) ∧ at2 ≤ at' + 1 ∧ Cur w' p a len cap at2 seed2 ∧ Only p w w'

theorem pick_any (p len cap at' seed n : Nat) (a : Option Addr) (w : World) (h : Cur w p a len cap at' seed) (hat : at' ≤ 1000000000000) (hn : n ≤ 1000000000000) :
    Calls Tryd.prog 63 #[.pointer (some ⟨p, 0, none⟩), .int .i64 (n : Int)] w (Picked p a len cap at' n w) := by
  have c0 := h.c0
  have c1 := h.c1
  have c2 := h.c2
  have f1 := h.f1
  have f2 := h.f2
  have hlen := h.len_le
  have hsd := h.seed_lt
  have HC := Lib.hid h
  by_cases hn2 : n < 2
  · clear h
    go_enter Tryd.func63, Tryd.ntmps63
    go_wp2
    go_ret
    exact ⟨0, at', seed, rfl, .inl rfl, by omega, HC.out, Only.refl _ _⟩
  · by_cases hlt : at' < len
    · have hrow := h.row
      obtain ⟨b, off, ha, hb, hr⟩ : ∃ b off, a = some ⟨b, off, none⟩ ∧ b < p ∧ ∀ i, i < len → ∃ c : Nat, c < 256 ∧ w.cell? ⟨b, off + i, none⟩ = some (.int .u8 (c : Int)) := by
        rcases hrow with h0 | h1
        · omega
        · exact h1
      obtain ⟨c, hc, hcell⟩ := hr at' hlt
      subst ha
      have hlt' : (at' : Int) < (len : Int) := by omega
      have hcw : wrap64 (c : Int) = (c : Int) := IntWalk.wrap64_in _ (by omega)
      clear hr hrow h
      go_enter Tryd.func63, Tryd.ntmps63
      go_wp2_with fail
      go_quiet (fail)
      go_wp2_with fail
      go_quiet (fail)
      go_wp2
      go_ret
      exact ⟨c % n, at' + 1, seed, rfl, .inr (Nat.mod_lt _ (by omega)), Nat.le_refl _, (HC.out.drewN _).move (at' + 1), ((Only.refl p w).drewN _).setCell _ _⟩
    · have hge : decide ((at' : Int) < (len : Int)) = false := decide_eq_false (by omega)
      obtain ⟨sd, hsd1⟩ : ∃ sd, (seed * 1103 + 12345) % 65521 = sd := ⟨_, rfl⟩
      have hsv : ((seed : Int) * 1103 + 12345) % 65521 = (sd : Int) := by omega
      have hsd2 : sd < 65521 := by omega
      clear hsd1 h
      by_cases h0 : len = 0
      · have hz : decide ((0 : Int) < (len : Int)) = false := decide_eq_false (by omega)
        go_enter Tryd.func63, Tryd.ntmps63
        go_wp2_with fail
        go_quiet (fail)
        go_wp2
        go_ret
        exact ⟨0, at' + 1, sd, rfl, .inl rfl, Nat.le_refl _, ((HC.out.drewN _).sow sd (by omega)).move (at' + 1), (((Only.refl p w).drewN _).setCell _ _).setCell _ _⟩
      · obtain ⟨b, off, ha, hb, hr⟩ : ∃ b off, a = some ⟨b, off, none⟩ ∧ b < p ∧ ∀ i, i < len → ∃ c : Nat, c < 256 ∧ w.cell? ⟨b, off + i, none⟩ = some (.int .u8 (c : Int)) := by
          rcases HC.out.row with h0' | h1
          · omega
          · exact h1
        subst ha
        obtain ⟨i, hi⟩ : ∃ i, at' % len = i := ⟨_, rfl⟩
        have hilt : i < len := by rw [← hi]; exact Nat.mod_lt _ (by omega)
        have hai : (at' : Int) % (len : Int) = (i : Int) := by rw [← hi]; exact (Int.natCast_emod at' len).symm
        have hat' : (at' : Int).tmod (len : Int) = (i : Int) := by rw [Int.tmod_eq_emod_of_nonneg (by omega)]; exact hai
        obtain ⟨c, hc, hcell⟩ := hr i hilt
        have HCE := Lib.hid hcell
        obtain ⟨s7, hs7, hw1⟩ := wrap_seventh sd (by omega)
        obtain ⟨x7, hx8, hw2⟩ := wrap_sum s7 c (by omega) hc
        have hz : (0 : Int) < (len : Int) := by omega
        have hi1 : (i : Int) < (len : Int) := by omega
        clear hr hi hcell
        go_enter Tryd.func63, Tryd.ntmps63
        go_wp2_with fail
        go_quiet (fail)
        go_wp2_with fail
        have HC2 := Lib.hid ((HC.out.drewN nq).sow sd (by omega))
        have HO2 := Lib.hid (((Only.refl p w).drewN nq).setCell 2 (.int .i64 (sd : Int)))
        clear c0 c1 c2 f1 f2
        generalize (w.drewN nq).setCell ⟨p, 2, none⟩ (.int .i64 (sd : Int)) = w1 at HC2 HO2 ⊢
        have c0 := HC2.out.c0
        have c1 := HC2.out.c1
        have c2 := HC2.out.c2
        have f1 := HC2.out.f1
        have f2 := HC2.out.f2
        have hcell2 : w1.cell? ⟨b, off + i, none⟩ = some (.int .u8 (c : Int)) := by rw [HO2.out.cell (by omega)]; exact HCE.out
        go_quiet (fail)
        go_wp2
        go_ret
        exact ⟨x7 % n, at' + 1, sd, rfl, .inr (Nat.mod_lt _ (by omega)), Nat.le_refl _, (HC2.out.drewN _).move (at' + 1), (HO2.out.drewN _).setCell _ _⟩
end Go.Proofs.YtjjpdoabagnmoaaDoor

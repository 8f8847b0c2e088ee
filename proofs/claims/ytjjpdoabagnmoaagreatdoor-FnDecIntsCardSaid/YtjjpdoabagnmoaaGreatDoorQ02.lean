/-
  Texts of this claim in one file, in build order: LawPick. Each says ahead what it proves and under which conditions.
-/
import Derived.Test.YtjjpdoabagnmoaaGreatDoorQ01
import Derived.WalkKit
import Derived.WalkLawsBesides
import Derived.WalkSpells
import Derived.BigQuiet
import Derived.Deep.Light
import Derived.Lib.Hide
import Derived.IntWalk
/-
  The contract of the laws' own choice out of a code: a number below a bound; nothing is written. Condition: a code of at most 2 to the 20 bytes.
-/
namespace Go.Proofs.YtjjpdoabagnmoaaGreatDoor
open Go.RowKit
set_option linter.unusedVariables false
set_option linter.unusedSimpArgs false

/-- how great the sum may be behind K bytes -/
def PB (K X : Nat) : Prop := (K = 0 ∧ X ≤ 0) ∨ (K = 1 ∧ X ≤ 255) ∨ (K = 2 ∧ X ≤ 8160) ∨ (K = 3 ∧ X ≤ 253215)
theorem PB.step {K X c Y : Nat} (hK : K < 3) (h : PB K X) (hc : c ≤ 255) (hY : Y = 31 * X + c) : PB (K + 1) Y := by
  unfold PB at h ⊢
  omega
theorem PB.le {K X : Nat} (h : PB K X) : X ≤ 253215 ∧ K ≤ 3 := by
  unfold PB at h
  omega
theorem PB.start : PB 0 0 := .inl ⟨rfl, Nat.le_refl _⟩
theorem sum_wrap (X c : Nat) (h : X ≤ 253215) (hc : c ≤ 255) : wrap64 (31 * (X : Int) + (c : Int)) = ((31 * X + c : Nat) : Int) := by
  rw [IntWalk.wrap64_in _ (by omega)]
  omega
theorem byte_wf {x : Int} (h : (Lit.int .u8 x).wf = true) : 0 ≤ x ∧ x ≤ 255 := by
  simpa [Lit.wf, IntKind.min, IntKind.max, IntKind.signed, IntKind.bits] using h
theorem mod_forms (x y n r : Nat) (h : (x + y) % n = r) (hn : 1 ≤ n) : ((x : Int) + (y : Int)) % (n : Int) = (r : Int) ∧ ((x : Int) + (y : Int)).tmod (n : Int) = (r : Int) := by
  have e : ((x : Int) + (y : Int)) % (n : Int) = (r : Int) := by rw [← h]; push_cast; rfl
  exact ⟨e, by rw [Int.tmod_eq_emod_of_nonneg (by omega)]; exact e⟩
/-- what a choice leaves -/
def Chosen (n : Nat) (w : World) (e : Ending) (w' : World) : Prop := ∃ r : Nat, e = .returned (.int .i64 (r : Int)) ∧ r < n ∧ w = w'
set_option maxHeartbeats 1000000 in
theorem lawPick_any (a : Option Addr) (len cap : Nat) (z : List Int) (p n : Nat) (w : World) (hr : IsRow .u8 w a len cap z) (hlen : len ≤ 1048576) (hp : p ≤ 1000) (hn : 1 ≤ n) (hn2 : n ≤ 100000) :
    Calls Tryz.prog 17 #[.slice a len cap, .int .i64 (p : Int), .int .i64 (n : Int)] w (Chosen n w) := by
  obtain ⟨hrow, hl, -, hz⟩ := isRow_row hr
  clear hr
  by_cases h0 : len = 0
  · subst h0
    clear hrow hl hz
    go_enter Tryz.func17, Tryz.ntmps17
    go_wp2
    go_ret
    exact ⟨0, rfl, by omega, rfl⟩
  · have hlz : ((len : Int) == 0) = false := beq_eq_false_iff_ne.2 (by omega)
    by_cases h1 : n < 2
    · have h1' : (n : Int) < 2 := by omega
      clear hrow hl hz
      go_enter Tryz.func17, Tryz.ntmps17
      go_wp2
      go_ret
      exact ⟨0, rfl, by omega, rfl⟩
    · have h1' : ¬ (n : Int) < 2 := by omega
      obtain ⟨b, off, ha, hb, hc⟩ : ∃ b off, a = some ⟨b, off, none⟩ ∧ b < w.heap.size ∧ ∀ i, i < len → ∃ c : Nat, c ≤ 255 ∧ w.cell? ⟨b, off + i, none⟩ = some (.int .u8 (c : Int)) := by
        rcases hrow with e | ⟨b, off, ha, hb, hc⟩
        · rw [e] at hl; exact absurd hl.symm h0
        · refine ⟨b, off, ha, hb, fun i hi => ?_⟩
          have e := hc i (by omega)
          have hm : (z.take len).getD i 0 ∈ z.take len := by
            rw [List.getD_eq_getElem?_getD, List.getElem?_eq_getElem (by omega)]
            exact List.getElem_mem _
          obtain ⟨w1, w2⟩ := byte_wf (hz _ hm)
          refine ⟨((z.take len).getD i 0).toNat, by omega, ?_⟩
          rw [e]
          congr 2
          omega
      subst ha
      have HC := Lib.hid hc
      clear hc hrow hl hz
      go_enter Tryz.func17, Tryz.ntmps17
      go_wp2
      go_loop [7, 8] (fun x k => ∃ X K : Nat, x = .int .i64 (X : Int) ∧ k = .int .i64 (K : Int) ∧ PB K X) (fun _ k => 3 - (intOf k).toNat)
      case atStart => exact ⟨0, 0, rfl, rfl, PB.start⟩
      case round =>
        obtain ⟨X, K, rfl, rfl, hX⟩ := hrel
        have HX := Lib.hid hX
        have hXb : X ≤ 253215 := hX.le.1
        have hK : K ≤ 3 := hX.le.2
        clear hX
        by_cases hlt : K < 3
        · have hlt' : (K : Int) < 3 := by omega
          obtain ⟨i, hi⟩ : ∃ i, (p + K) % len = i := ⟨_, rfl⟩
          have hil : i < len := by rw [← hi]; exact Nat.mod_lt _ (by omega)
          have hil' : (i : Int) < (len : Int) := by omega
          obtain ⟨m1, m2⟩ := mod_forms p K len i hi (by omega)
          obtain ⟨c, hcb, hcell⟩ := HC.out i hil
          clear m1
          have hKn : K + 1 ≤ 3 := hlt
          clear hi
          go_wp2
          go_round
          case rel => exact ⟨31 * X + c, K + 1, by congr 1, by go_num, PB.step hlt HX.out hcb rfl⟩
          case measure => simp [intOf]; omega
        · have hlt' : ¬ (K : Int) < 3 := by omega
          obtain ⟨r, hrr⟩ : ∃ r, (X + p) % n = r := ⟨_, rfl⟩
          have hrn : r < n := by rw [← hrr]; exact Nat.mod_lt _ (by omega)
          obtain ⟨m1, m2⟩ := mod_forms X p n r hrr hn
          have hn0 : ((n : Int) == 0) = false := beq_eq_false_iff_ne.2 (by omega)
          clear hrr
          go_wp2
          go_ret
          exact ⟨r, rfl, hrn, rfl⟩
end Go.Proofs.YtjjpdoabagnmoaaGreatDoor

/-
  The program's TsvText. Conditions: bounds; the tables of unicode utf8 stand in memory.
-/
import Derived.Test.YtobpecgecopdnaaGreatDoorRowsTsv
import Derived.Test.YtobpecgecopdnaaGreatDoorCellText
namespace Go.Proofs.YtobpecgecopdnaaGreatDoor
open Go.RowKit
open Go.Lib hiding intOf
set_option linter.unusedVariables false
set_option linter.unusedSimpArgs false

theorem cellText_writes (w0 : World) : Writes 14 clL w0 := fun s w hok _ => cellText_any s w (by have := okT_len hok; omega)
theorem implTsvText_any (a : Option Addr) (cap n : Nat) (Q : List RowQ) (w : World) (h : RowR w a Q) (hn : Q.length = n) (hl : n ≤ 1048576) (hq : ∀ q ∈ Q, q.l ≤ 1048576 ∧ ∀ s ∈ q.ss, s.size ≤ 1048576) (hT : Tabs w) :
    Calls Tryz.prog 7 #[.slice a n cap] w fun e w' => e = .returned (.tuple #[.string (txS (rowsTx 9 clL (ssOf Q))), .bool (txB (rowsTx 9 clL (ssOf Q)))]) ∧ Below w.heap.size w w' := by
  have HA := Lib.hid (rowsText_any clL clL_length 9 a cap n Q w (cellText_writes w) h hn hl hq hT)
  obtain ⟨x, hx⟩ : ∃ x, rowsTx 9 clL (ssOf Q) = x := ⟨_, rfl⟩
  rw [hx] at HA ⊢
  clear hx h hn hl hq hT
  go_enter Tryz.func7, Tryz.ntmps7
  go_wp2_with fail
  refine HA.out.mono ?_
  rintro e w1 ⟨rfl, hb⟩
  go_wp2
  go_ret2
  exact ⟨rfl, hb⟩
end Go.Proofs.YtobpecgecopdnaaGreatDoor

/-
  The contracts of DecNeg, the reference's and the program's. No condition.
-/
import Derived.Test.YtjjpdoabagnmoaaGreatDoorDecLaw
namespace Go.Proofs.YtjjpdoabagnmoaaGreatDoor
open Go.RowKit
set_option linter.unusedVariables false
set_option linter.unusedSimpArgs false

theorem empty_of {s : ByteArray} (h : s.size = 0) : s = ⟨#[]⟩ := by
  cases s with
  | mk d =>
    have : d.size = 0 := h
    simp at this
    rw [this]

theorem decOk_zero {n : Bool} {s : ByteArray} {x : Int} (h : decOk n (bs s) x = true) (h0 : s.size = 0) : n = false ∧ s = ⟨#[]⟩ ∧ x = 0 := by
  rw [bs_empty h0, decOk_nil] at h
  simp at h
  exact ⟨h.1, empty_of h0, h.2⟩



end Go.Proofs.YtjjpdoabagnmoaaGreatDoor

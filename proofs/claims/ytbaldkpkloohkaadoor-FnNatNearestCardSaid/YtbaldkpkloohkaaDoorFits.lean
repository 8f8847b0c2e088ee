/-
  The contracts of the bound on a natural's digits, the program's and the reference's. Condition: no longer than 2 to the 40.
-/
import Derived.Test.YtbaldkpkloohkaaDoorNat1
import Derived.Test.YtbaldkpkloohkaaDoorNatOk
namespace Go.Proofs.YtbaldkpkloohkaaDoor
open Go.RowKit
set_option linter.unusedVariables false
set_option linter.unusedSimpArgs false

def fitS (l : List UInt8) : ByteArray := if l.length ≤ 600 then ofL l else ⟨#[]⟩
def fitB (l : List UInt8) : Bool := decide (l.length ≤ 600)
theorem fitS_yes {l : List UInt8} (h : l.length ≤ 600) : fitS l = ofL l := if_pos h
theorem fitS_no {l : List UInt8} (h : ¬ l.length ≤ 600) : fitS l = ⟨#[]⟩ := if_neg h
theorem fitB_yes {l : List UInt8} (h : l.length ≤ 600) : fitB l = true := decide_eq_true h
theorem fitB_no {l : List UInt8} (h : ¬ l.length ≤ 600) : fitB l = false := decide_eq_false h
theorem ret_sb {s t : ByteArray} {a b : Bool} (h : s = t) (h' : a = b) : Ending.returned (.tuple #[.string s, .bool a]) = .returned (.tuple #[.string t, .bool b]) := by rw [h, h']

theorem checkedNat_any (l : List UInt8) (w : World) :
    Calls Tryd.prog 33 #[.string (ofL l)] w fun e w' => e = .returned (.tuple #[.string (fitS l), .bool (fitB l)]) ∧ Below w.heap.size w w' := by
  have hsz := size_ofL l
  by_cases h : l.length ≤ 600
  · rw [fitS_yes h, fitB_yes h]
    have h' : ((l.length : Nat) : Int) ≤ 600 := by omega
    clear h
    go_enter Tryd.func33, Tryd.ntmps33
    go_wp2
    refine bodyPost_ret (v := .tuple #[.string (ofL l), .bool true]) (by simp [results, Tryd.results33, go_sem, *]) rfl ⟨rfl, ?_⟩
    exact Below.refl _ _
  · rw [fitS_no h, fitB_no h]
    have h' : 600 < ((l.length : Nat) : Int) := by omega
    clear h
    go_enter Tryd.func33, Tryd.ntmps33
    go_wp2
    refine bodyPost_ret (v := .tuple #[.string ⟨#[]⟩, .bool false]) (by simp [results, Tryd.results33, go_sem, *]) rfl ⟨rfl, ?_⟩
    exact Below.refl _ _

theorem l02Fits_any (l : List UInt8) (w : World) :
    Calls Tryd.prog 30 #[.string (ofL l)] w fun e w' => e = .returned (.tuple #[.string (fitS l), .bool (fitB l)]) ∧ Below w.heap.size w w' := by
  have hsz := size_ofL l
  by_cases h : l.length ≤ 600
  · rw [fitS_yes h, fitB_yes h]
    have h' : ((l.length : Nat) : Int) ≤ 600 := by omega
    clear h
    go_enter Tryd.func30, Tryd.ntmps30
    go_wp2
    refine bodyPost_ret (v := .tuple #[.string (ofL l), .bool true]) (by simp [results, Tryd.results30, go_sem, *]) rfl ⟨rfl, ?_⟩
    exact Below.refl _ _
  · rw [fitS_no h, fitB_no h]
    have h' : 600 < ((l.length : Nat) : Int) := by omega
    clear h
    go_enter Tryd.func30, Tryd.ntmps30
    go_wp2
    refine bodyPost_ret (v := .tuple #[.string ⟨#[]⟩, .bool false]) (by simp [results, Tryd.results30, go_sem, *]) rfl ⟨rfl, ?_⟩
    exact Below.refl _ _
end Go.Proofs.YtbaldkpkloohkaaDoor

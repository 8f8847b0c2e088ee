/-
  Powers of a number, as both sides' loops make them: plain facts. No condition.
-/
import Derived.Test.YtbfkmpignbppfaaDoorDecMul
import Derived.Test.YtbfkmpignbppfaaDoorDecDiv
namespace Go.Proofs.YtbfkmpignbppfaaDoor
open Go.RowKit
set_option linter.unusedVariables false
set_option linter.unusedSimpArgs false

/-- a number and a code -/
structure NumC where
  neg : Bool
  dig : ByteArray
  exp : Int
  code : Int
/-- as a call returns it -/
def NumC.val (q : NumC) : Value := .tuple #[.agg #[.bool q.neg, .string q.dig, .int .i64 q.exp], .int .i64 q.code]
/-- it is in form, and where the code tells of a fault, nothing -/
def NumC.ok (q : NumC) : Prop := decOk q.neg (bs q.dig) q.exp = true ∧ q.dig.size ≤ 20 ∧ (q.code = 0 ∨ (q.code = 1 ∧ q.neg = false ∧ q.dig = ⟨#[]⟩ ∧ q.exp = 0))
theorem formV_num (n : Bool) (v : Nat) (x : Int) : ∃ q : NumC, formV n v x = q.val ∧ q.ok := by
  obtain ⟨n', u, y, c, h1, h2, h3, h4⟩ := formV_lit n v x
  by_cases hv : v = 0
  · exact ⟨⟨false, ⟨#[]⟩, 0, 0⟩, by unfold formV; rw [if_pos hv]; rfl, by decide, by decide, .inl rfl⟩
  · by_cases h5 : 99 < fH v x
    · exact ⟨⟨false, ⟨#[]⟩, 0, 1⟩, by unfold formV; rw [if_neg hv, if_pos h5]; rfl, by decide, by decide, .inr ⟨rfl, rfl, rfl, rfl⟩⟩
    · have h0 : ∃ (m : Bool) (l : List UInt8) (z : Int), formV n v x = numV m l z 0 := by
        unfold formV
        rw [if_neg hv, if_neg h5]
        split
        · exact ⟨_, _, _, rfl⟩
        · exact ⟨_, _, _, rfl⟩
      obtain ⟨m, l, z, e⟩ := h0
      rw [h1] at e
      have hc : c = 0 := by
        have := e
        unfold numV at this
        simp only [Value.tuple.injEq, Array.mk.injEq, List.cons.injEq, Value.int.injEq, and_true, true_and] at this
        exact this.2
      exact ⟨⟨n', u, y, c⟩, h1, h2, h3, .inl hc⟩
/-- a product, as a number and a code -/
noncomputable def mulQ (a b : NumC) : NumC := Classical.choose (formV_num (a.neg != b.neg) (val (bs a.dig) * val (bs b.dig)) (a.exp + b.exp))
theorem mulQ_val (a b : NumC) : mulV a.neg a.dig a.exp b.neg b.dig b.exp = (mulQ a b).val := (Classical.choose_spec (formV_num (a.neg != b.neg) (val (bs a.dig) * val (bs b.dig)) (a.exp + b.exp))).1
theorem mulQ_ok (a b : NumC) : (mulQ a b).ok := (Classical.choose_spec (formV_num (a.neg != b.neg) (val (bs a.dig) * val (bs b.dig)) (a.exp + b.exp))).2
/-- a's power of k + 1; where a product is too great, the fault stays -/
noncomputable def powQ (a : NumC) : Nat → NumC
  | 0 => a
  | k + 1 => if (powQ a k).code = 0 then mulQ (powQ a k) a else powQ a k
theorem powQ_ok {a : NumC} (h : a.ok) : ∀ k, (powQ a k).ok
  | 0 => h
  | k + 1 => by
    unfold powQ
    split
    · exact mulQ_ok _ _
    · exact powQ_ok h k
theorem powQ_stay {a : NumC} {j : Nat} (h : (powQ a j).code ≠ 0) : ∀ k, j ≤ k → powQ a k = powQ a j
  | 0, hj => by rw [show j = 0 by omega]
  | k + 1, hj => by
    by_cases e : j = k + 1
    · rw [e]
    · have ih := powQ_stay h k (by omega)
      rw [show powQ a (k + 1) = if (powQ a k).code = 0 then mulQ (powQ a k) a else powQ a k from rfl, ih, if_neg h]
/-- a quotient of one by a number, as a number and a code -/
theorem divV_num (n : Bool) (s : ByteArray) (x : Int) (m : Bool) (t : ByteArray) (y : Int) : ∃ q : NumC, divV n s x m t y = q.val := by
  obtain ⟨n', u, y', c, h⟩ := divV_lit n s x m t y
  exact ⟨⟨n', u, y', c⟩, h⟩
theorem one_form : formV false 1 0 = (⟨false, ⟨#[49]⟩, 0, 0⟩ : NumC).val := by
  have h := (form_same (n := false) (l := [49]) (x := 0) (by decide) (by decide)).2.2.2
  rw [show val [49] = 1 from rfl] at h
  exact h
end Go.Proofs.YtbfkmpignbppfaaDoor

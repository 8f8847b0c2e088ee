/-
  Plain facts on texts that are right: they are the bytes of their code points, of which there are at most 1000. No program here. No condition.
-/
import Derived.Test.YtpolpihgclemnaaDoorRunes
import Derived.Test.YtpolpihgclemnaaDoorEnc
namespace Go.Proofs.YtpolpihgclemnaaDoor
open Go.Lib hiding intOf
set_option linter.unusedVariables false

/-- a text that is right is the bytes of its code points -/
theorem okT_enc {l : List UInt8} (h : okT l = true) : l = enc (rl l) ∧ (∀ c ∈ rl l, isPt (c : Int) = true) ∧ l.length ≤ 1000 := by
  unfold okT rl textRunes at *
  by_cases h1 : 1000 < l.length
  · rw [if_pos h1] at h; simp at h
  · rw [if_neg h1] at h ⊢
    cases h2 : runes l with
    | none => rw [h2] at h; simp at h
    | some r =>
      obtain ⟨h3, h4⟩ := runes_flat _ l r (Nat.le_refl _) h2
      exact ⟨h3, h4, by omega⟩
theorem rl_short (l : List UInt8) : (rl l).length ≤ 1000 := by
  cases h : okT l
  · unfold okT rl at *
    cases h2 : textRunes l with
    | none => simp
    | some r => rw [h2] at h; simp at h
  · obtain ⟨h1, _, h3⟩ := okT_enc h
    have := (enc_length (rl l)).1
    rw [← h1] at this
    omega
/-- a beginning of a text, cut between code points -/
theorem okT_enc' {r : List Nat} (h : ∀ c ∈ r, isPt (c : Int) = true) (hl : (enc r).length ≤ 1000) : okT (enc r) = true ∧ rl (enc r) = r := okT_some hl (runes_enc r h)

end Go.Proofs.YtpolpihgclemnaaDoor

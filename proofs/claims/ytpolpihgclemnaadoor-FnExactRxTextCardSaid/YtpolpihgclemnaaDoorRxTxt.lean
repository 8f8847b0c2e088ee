/-
  The text of a pattern, in plain words. No program here. No condition.
-/
import Derived.Test.YtpolpihgclemnaaDoorRxChar
import Derived.Test.YtpolpihgclemnaaDoorRxTree
import Derived.Test.YtpolpihgclemnaaDoorNumText
namespace Go.Proofs.YtpolpihgclemnaaDoor
set_option linter.unusedVariables false

/-- how often, as it is written -/
def oftB (lo hi : Int) : List UInt8 :=
  if lo = 0 ∧ hi = -1 then [42] else if lo = 1 ∧ hi = -1 then [43] else if lo = 0 ∧ hi = 1 then [63] else if hi = -1 then 123 :: (numL lo ++ [44, 125]) else if lo = hi then 123 :: (numL lo ++ [125]) else 123 :: (numL lo ++ 44 :: (numL hi ++ [125]))
/-- in parentheses, where it must be -/
def parB (b : Bool) (l : List UInt8) : List UInt8 := if b = true then 40 :: (l ++ [41]) else l
/-- the pairs of a set -/
def prsB : List Int → List UInt8
  | x :: y :: r => chB x (bs sgnB) ++ (if x = y then [] else 45 :: chB y (bs sgnB)) ++ prsB r
  | _ => []
/-- must a kid of one kind stand in parentheses in a node of another? -/
def parK (kind kk : Int) : Bool :=
  if kind = 8 then decide (kk = 8) else if kind = 7 then decide (kk = 7 ∨ kk = 8 ∨ kk = 1) else decide (kk = 7 ∨ kk = 8 ∨ kk = 9 ∨ kk = 1)
/-- a kid's text in a node -/
def kidB (T : List (List UInt8)) (K : List Int) (kind k : Int) : List UInt8 := parB (parK kind (K.getD k.toNat 0)) (T.getD k.toNat [])
/-- kids' texts one behind another -/
def kidsB (T : List (List UInt8)) (K : List Int) (kind : Int) : List Int → List UInt8
  | [] => []
  | [k] => kidB T K kind k
  | k :: r => kidB T K kind k ++ (if kind = 8 then [124] else []) ++ kidsB T K kind r
/-- a node's text out of its kids' texts T and kinds K -/
def nodeT (T : List (List UInt8)) (K : List Int) (v : NdV) : Option (List UInt8) :=
  if v.1 = 1 then some []
  else if v.1 = 2 then (if isPt v.2.1 = true then some (chB v.2.1 (bs sgnA)) else none)
  else if v.1 = 3 then some [46]
  else if v.1 = 5 then some [94]
  else if v.1 = 6 then some [36]
  else if v.1 = 4 then (if v.2.2.2.2.1.length % 2 = 0 ∧ v.2.2.2.2.1.length ≤ 2000 ∧ v.2.2.2.2.1.all isPt = true then some ((if v.2.2.2.1 = true then [91, 94] else [91]) ++ prsB v.2.2.2.2.1 ++ [93]) else none)
  else if v.1 = 7 ∨ v.1 = 8 then some (kidsB T K v.1 v.2.2.2.2.2)
  else if v.1 = 9 then (if v.2.2.2.2.2.length = 1 ∧ 0 ≤ v.2.1 ∧ -1 ≤ v.2.2.1 then some (kidB T K 9 (v.2.2.2.2.2.getD 0 0) ++ oftB v.2.1 v.2.2.1) else none)
  else none
/-- .. that is not too long -/
def nodeS (T : List (List UInt8)) (K : List Int) (v : NdV) : Option (List UInt8) :=
  match nodeT T K v with
  | some t => if 1000 < t.length then none else some t
  | none => none
/-- the texts of the first j nodes; none where one has none -/
def txtsL (L : List NdV) : Nat → Option (List (List UInt8))
  | 0 => some []
  | j + 1 => match txtsL L j with
    | some T => (match nodeS T (L.map fun v => v.1) (L.getD j (0, 0, 0, false, [], [])) with
      | some t => some (T ++ [t])
      | none => none)
    | none => none
/-- the text of a pattern; nothing of what has none -/
noncomputable def rxT (L : List NdV) : List UInt8 :=
  if treeB (L.map fun v => v.2.2.2.2.2) = true then (match txtsL L L.length with | some T => T.getLastD [] | none => []) else []
theorem txtsL_none {L : List NdV} {j : Nat} (h : txtsL L j = none) : ∀ k, j ≤ k → txtsL L k = none := by
  intro k hk
  induction k with
  | zero => obtain rfl : j = 0 := by omega
            exact h
  | succ k ih =>
    by_cases e : j = k + 1
    · subst e; exact h
    · rw [txtsL, ih (by omega)]
theorem txtsL_next {L : List NdV} {j : Nat} {T : List (List UInt8)} {t : List UInt8} (h : txtsL L j = some T) (ht : nodeS T (L.map fun v => v.1) (L.getD j (0, 0, 0, false, [], [])) = some t) : txtsL L (j + 1) = some (T ++ [t]) := by
  rw [txtsL, h]
  simp only [ht]
theorem txtsL_stop {L : List NdV} {j : Nat} {T : List (List UInt8)} (h : txtsL L j = some T) (ht : nodeS T (L.map fun v => v.1) (L.getD j (0, 0, 0, false, [], [])) = none) : txtsL L (j + 1) = none := by
  rw [txtsL, h]
  simp only [ht]
theorem txtsL_len {L : List NdV} : ∀ {j : Nat} {T : List (List UInt8)}, txtsL L j = some T → T.length = j ∧ ∀ t ∈ T, t.length ≤ 1000
  | 0, T, h => by
    simp only [txtsL, Option.some.injEq] at h
    subst h
    exact ⟨rfl, fun t ht => by simp at ht⟩
  | j + 1, T, h => by
    rw [txtsL] at h
    cases h1 : txtsL L j with
    | none => rw [h1] at h; cases h
    | some T0 =>
      rw [h1] at h
      simp only [] at h
      cases h2 : nodeS T0 (L.map fun v => v.1) (L.getD j (0, 0, 0, false, [], [])) with
      | none => rw [h2] at h; cases h
      | some t =>
        rw [h2] at h
        simp only [Option.some.injEq] at h
        subst h
        obtain ⟨k1, k2⟩ := txtsL_len h1
        refine ⟨by rw [List.length_append, k1]; rfl, fun x hx => ?_⟩
        rcases List.mem_append.1 hx with h3 | h3
        · exact k2 x h3
        · simp at h3
          subst h3
          unfold nodeS at h2
          split at h2
          · split at h2
            · cases h2
            · simp only [Option.some.injEq] at h2
              subst h2
              omega
          · cases h2
theorem rxT_no {L : List NdV} (h : treeB (L.map fun v => v.2.2.2.2.2) = false) : rxT L = [] := by unfold rxT; rw [if_neg (by rw [h]; simp)]
theorem rxT_stop {L : List NdV} {j : Nat} (hj : j ≤ L.length) (h : txtsL L j = none) : rxT L = [] := by
  unfold rxT
  split
  · rw [txtsL_none h _ hj]
  · rfl
theorem rxT_yes {L : List NdV} {T : List (List UInt8)} (h : treeB (L.map fun v => v.2.2.2.2.2) = true) (ht : txtsL L L.length = some T) : rxT L = T.getLastD [] := by unfold rxT; rw [if_pos h, ht]
end Go.Proofs.YtpolpihgclemnaaDoor

/-
  What a byte of a cell becomes behind a tab-separated row's rules (clB), a whole cell (clL), what CellText gives (clT). No program here. No condition.
-/
import Derived.Test.YtobpecgecopdnaaGreatDoorText
namespace Go.Proofs.YtobpecgecopdnaaGreatDoor

/-- a byte of a cell as it is written -/
def clB (x : UInt8) : List UInt8 :=
  if x.toNat = 9 then [92, 116] else if x.toNat = 10 then [92, 110] else if x.toNat = 13 then [92, 114] else if x.toNat = 92 then [92, 92] else [x]
def clL (l : List UInt8) : List UInt8 := l.flatMap clB
theorem clL_take (l : List UInt8) (j : Nat) (h : j < l.length) : clL (l.take (j + 1)) = clL (l.take j) ++ clB l[j] := by
  unfold clL
  rw [List.take_succ_eq_append_getElem h, List.flatMap_append]
  simp
theorem clB_length (x : UInt8) : (clB x).length ≤ 2 := by
  unfold clB
  repeat' split
  all_goals simp
theorem clL_length : ∀ l : List UInt8, (clL l).length ≤ 2 * l.length + 2
  | [] => by simp [clL]
  | x :: l => by
    have h := clL_length l
    have h1 := clB_length x
    unfold clL at *
    rw [List.flatMap_cons]
    simp only [List.length_cons, List.length_append] at *
    omega
/-- is a byte written in two? -/
def clS (x : UInt8) : Bool := x == 9 || x == 10 || x == 13 || x == 92
/-- the length of a written cell: one more for each of the four bytes -/
theorem clL_count : ∀ l : List UInt8, (clL l).length = l.length + l.count 13 + l.count 10 + l.count 9 + l.count 92
  | [] => by simp [clL]
  | x :: l => by
    have h := clL_count l
    unfold clL at *
    rw [List.flatMap_cons, List.length_append, h]
    simp only [List.length_cons, List.count_cons]
    by_cases h9 : x = 9
    · subst h9; simp [clB]; omega
    by_cases h10 : x = 10
    · subst h10; simp [clB]; omega
    by_cases h13 : x = 13
    · subst h13; simp [clB]; omega
    by_cases h92 : x = 92
    · subst h92; simp [clB]; omega
    have k : ∀ d : UInt8, x ≠ d → ¬ x.toNat = d.toNat := fun d h e => h (UInt8.toNat_inj.1 e)
    have e : clB x = [x] := by
      unfold clB
      rw [if_neg (show ¬ x.toNat = 9 from k 9 h9), if_neg (show ¬ x.toNat = 10 from k 10 h10), if_neg (show ¬ x.toNat = 13 from k 13 h13), if_neg (show ¬ x.toNat = 92 from k 92 h92)]
    rw [e]
    simp [h9, h10, h13, h92]
    omega
theorem clL_none : ∀ {l : List UInt8}, l.count 13 = 0 → l.count 10 = 0 → l.count 9 = 0 → l.count 92 = 0 → clL l = l
  | [], _, _, _, _ => rfl
  | x :: l, h1, h2, h3, h4 => by
    simp only [List.count_cons] at h1 h2 h3 h4
    have := clL_none (l := l) (by omega) (by omega) (by omega) (by omega)
    unfold clL at *
    rw [List.flatMap_cons, this]
    have g : ∀ d : UInt8, (if (x == d) = true then 1 else 0) = 0 → ¬ x.toNat = d.toNat := fun d h e => by
      have : x = d := UInt8.toNat_inj.1 e
      subst this
      simp at h
    unfold clB
    rw [if_neg (show ¬ x.toNat = 9 from g 9 (by omega)), if_neg (show ¬ x.toNat = 10 from g 10 (by omega)), if_neg (show ¬ x.toNat = 13 from g 13 (by omega)), if_neg (show ¬ x.toNat = 92 from g 92 (by omega))]
    rfl
end Go.Proofs.YtobpecgecopdnaaGreatDoor

/-
  Plain facts on how far a number's text goes. No program here. No condition.
-/
import Derived.Test.YtjjpdoabagnmoaaGreatDoorVal
namespace Go.Proofs.YtjjpdoabagnmoaaGreatDoor
open Go.RowKit

/-- how many digits stand ahead -/
def tw : List UInt8 → Nat
  | [] => 0
  | c :: l => if isDig c = true then tw l + 1 else 0
theorem tw_dig {c : UInt8} {l : List UInt8} (h : isDig c = true) : tw (c :: l) = tw l + 1 := by rw [tw, if_pos h]
theorem tw_stop {c : UInt8} {l : List UInt8} (h : isDig c = false) : tw (c :: l) = 0 := by rw [tw, h]; rfl
theorem tw_le : ∀ l : List UInt8, tw l ≤ l.length
  | [] => Nat.le_refl _
  | c :: l => by
    rw [tw]
    split
    · have := tw_le l; simp; omega
    · exact Nat.zero_le _
theorem tw_split : ∀ l : List UInt8, (l.take (tw l)).all isDig = true ∧ ∀ c r, l.drop (tw l) = c :: r → isDig c = false
  | [] => ⟨rfl, fun c r h => by simp [tw] at h⟩
  | c :: l => by
    obtain ⟨h1, h2⟩ := tw_split l
    by_cases h : isDig c = true
    · rw [tw_dig h]
      refine ⟨by simp [h]; simpa using h1, fun d r e => h2 d r (by simpa using e)⟩
    · have h' : isDig c = false := by simpa using h
      rw [tw_stop h']
      refine ⟨rfl, fun d r e => ?_⟩
      simp at e
      rw [← e.1]; exact h'
/-- how many bytes a sign takes ahead -/
def sgN : List UInt8 → Nat
  | [] => 0
  | c :: _ => if c = 43 ∨ c = 45 then 1 else 0
theorem sgN_le (l : List UInt8) : sgN l ≤ 1 ∧ sgN l ≤ l.length := by
  cases l with
  | nil => exact ⟨Nat.zero_le _, Nat.le_refl _⟩
  | cons c l => rw [sgN]; split <;> simp
/-- the body of a number's text: how many bytes it takes, and how many of them are digits; 'p': the point is behind -/
def runM : Bool → List UInt8 → Nat × Nat
  | _, [] => (0, 0)
  | p, c :: l => if isDig c = true then ((runM p l).1 + 1, (runM p l).2 + 1) else if c = 46 ∧ p = false then ((runM true l).1 + 1, (runM true l).2) else (0, 0)
theorem runM_dig {p : Bool} {c : UInt8} {l : List UInt8} (h : isDig c = true) : runM p (c :: l) = ((runM p l).1 + 1, (runM p l).2 + 1) := by
  rw [runM, if_pos h]
theorem runM_point {l : List UInt8} : runM false (46 :: l) = ((runM true l).1 + 1, (runM true l).2) := by
  rw [runM, if_neg (by decide), if_pos ⟨rfl, rfl⟩]
theorem runM_stop {p : Bool} {c : UInt8} {l : List UInt8} (h : isDig c = false) (h2 : c ≠ 46 ∨ p = true) : runM p (c :: l) = (0, 0) := by
  rw [runM, if_neg (by rw [h]; decide), if_neg]
  rintro ⟨e1, e2⟩
  rcases h2 with h2 | h2
  · exact h2 e1
  · rw [h2] at e2; exact absurd e2 (by decide)
theorem runM_true : ∀ l : List UInt8, runM true l = (tw l, tw l)
  | [] => rfl
  | c :: l => by
    by_cases h : isDig c = true
    · rw [runM_dig h, tw_dig h, runM_true l]
    · have h' : isDig c = false := by simpa using h
      rw [runM_stop h' (.inr rfl), tw_stop h']
theorem runM_nodot : ∀ l : List UInt8, (∀ c r, l.drop (tw l) = c :: r → c ≠ 46) → runM false l = (tw l, tw l)
  | [], _ => rfl
  | c :: l, hh => by
    by_cases h : isDig c = true
    · rw [tw_dig h] at hh
      rw [runM_dig h, tw_dig h, runM_nodot l (fun d r e => hh d r (by simpa using e))]
    · have h' : isDig c = false := by simpa using h
      rw [tw_stop h'] at hh
      rw [runM_stop h' (.inl (hh c l rfl)), tw_stop h']
theorem runM_dot : ∀ (l r : List UInt8), l.drop (tw l) = 46 :: r → runM false l = (tw l + 1 + tw r, tw l + tw r)
  | [], r, h => by simp at h
  | c :: l, r, hh => by
    by_cases h : isDig c = true
    · rw [tw_dig h] at hh
      rw [runM_dig h, tw_dig h, runM_dot l r (by simpa using hh)]
      simp; omega
    · have h' : isDig c = false := by simpa using h
      rw [tw_stop h'] at hh
      simp at hh
      obtain ⟨rfl, rfl⟩ := hh
      rw [runM_point, runM_true, tw_stop h']
      simp; omega
theorem runM_le : ∀ (l : List UInt8) (p : Bool), (runM p l).1 ≤ l.length ∧ (runM p l).2 ≤ (runM p l).1
  | [], _ => ⟨Nat.le_refl _, Nat.le_refl _⟩
  | c :: l, p => by
    rw [runM]
    split
    · have := runM_le l p; simp; omega
    · split
      · have := runM_le l true; simp; omega
      · simp
/-- the exponent's bytes -/
def expN : List UInt8 → Nat
  | [] => 0
  | c :: r => if c = 101 ∨ c = 69 then if 0 < tw (r.drop (sgN r)) then 1 + sgN r + tw (r.drop (sgN r)) else 0 else 0
theorem expN_le (l : List UInt8) : expN l ≤ l.length := by
  cases l with
  | nil => exact Nat.le_refl _
  | cons c r =>
    rw [expN]
    have h1 := tw_le (r.drop (sgN r))
    have h2 := sgN_le r
    rw [List.length_drop] at h1
    split
    · split
      · simp; omega
      · simp
    · simp
/-- how far a number's text goes -/
def scanN (l : List UInt8) : Nat :=
  if (runM false (l.drop (sgN l))).2 = 0 then 0 else sgN l + (runM false (l.drop (sgN l))).1 + expN (l.drop (sgN l + (runM false (l.drop (sgN l))).1))
theorem scanN_le (l : List UInt8) : scanN l ≤ l.length := by
  unfold scanN
  have h1 := (runM_le (l.drop (sgN l)) false).1
  have h2 := sgN_le l
  have h3 := expN_le (l.drop (sgN l + (runM false (l.drop (sgN l))).1))
  rw [List.length_drop] at h1 h3
  split
  · exact Nat.zero_le _
  · omega

/-- a sign's bytes -/
def IsSg (l : List UInt8) : Prop := l = [] ∨ l = [43] ∨ l = [45]
/-- an exponent's parts -/
def IsEx (ex sg d : List UInt8) : Prop := (ex = [] ∧ sg = [] ∧ d = []) ∨ (∃ c, (c = 101 ∨ c = 69) ∧ ex = c :: (sg ++ d) ∧ IsSg sg ∧ d.all isDig = true ∧ d ≠ [])
theorem sg_split (l : List UInt8) : IsSg (l.take (sgN l)) ∧ ∀ c r, l.drop (sgN l) = c :: r → sgN l = 0 → c ≠ 43 ∧ c ≠ 45 := by
  cases l with
  | nil => exact ⟨.inl rfl, fun c r h => by simp at h⟩
  | cons c l =>
    rw [sgN]
    split
    · rename_i h
      refine ⟨?_, fun d r _ e => absurd e (by decide)⟩
      rcases h with rfl | rfl
      · exact .inr (.inl rfl)
      · exact .inr (.inr rfl)
    · rename_i h
      refine ⟨.inl rfl, fun d r e _ => ?_⟩
      simp at e
      rw [← e.1]
      exact ⟨fun e => h (.inl e), fun e => h (.inr e)⟩
theorem ex_split (l : List UInt8) : ∃ sg d, IsEx (l.take (expN l)) sg d := by
  cases l with
  | nil => exact ⟨[], [], .inl ⟨rfl, rfl, rfl⟩⟩
  | cons c r =>
    rw [expN]
    split
    · rename_i h
      split
      · rename_i h2
        refine ⟨r.take (sgN r), (r.drop (sgN r)).take (tw (r.drop (sgN r))), .inr ⟨c, h, ?_, (sg_split r).1, (tw_split _).1, ?_⟩⟩
        · rw [show 1 + sgN r + tw (r.drop (sgN r)) = (sgN r + tw (r.drop (sgN r))) + 1 by omega, List.take_succ_cons, List.take_add]
        · intro e
          have := congrArg List.length e
          rw [List.length_take] at this
          have := tw_le (r.drop (sgN r))
          simp at *
          omega
      · exact ⟨[], [], .inl ⟨rfl, rfl, rfl⟩⟩
    · exact ⟨[], [], .inl ⟨rfl, rfl, rfl⟩⟩
/-- the body's parts -/
def IsBody (b d1 d2 : List UInt8) : Prop := (b = d1 ∧ d2 = [] ∧ d1.all isDig = true ∧ d1 ≠ []) ∨ (b = d1 ++ 46 :: d2 ∧ d1.all isDig = true ∧ d2.all isDig = true ∧ d1 ++ d2 ≠ [])
theorem body_split (l : List UInt8) (h : (runM false l).2 ≠ 0) : ∃ d1 d2, IsBody (l.take (runM false l).1) d1 d2 := by
  by_cases hd : ∃ r, l.drop (tw l) = 46 :: r
  · obtain ⟨r, hr⟩ := hd
    rw [runM_dot l r hr] at h ⊢
    refine ⟨l.take (tw l), r.take (tw r), .inr ⟨?_, (tw_split l).1, (tw_split r).1, ?_⟩⟩
    · show l.take (tw l + 1 + tw r) = _
      rw [show tw l + 1 + tw r = tw l + (tw r + 1) by omega, List.take_add, hr, List.take_succ_cons]
    · intro e
      have e3 := congrArg List.length e
      have h1 := tw_le l
      have h2 := tw_le r
      rw [List.length_append, List.length_take, List.length_take, List.length_nil] at e3
      have h3 : tw l + tw r ≠ 0 := h
      omega
  · have hn := runM_nodot l (fun c r e e2 => hd ⟨r, by rw [e, e2]⟩)
    rw [hn] at h ⊢
    refine ⟨l.take (tw l), [], .inl ⟨rfl, rfl, (tw_split l).1, ?_⟩⟩
    intro e
    have e3 := congrArg List.length e
    have h1 := tw_le l
    rw [List.length_take, List.length_nil] at e3
    have h3 : tw l ≠ 0 := h
    omega
/-- a number's text and its parts -/
theorem scan_parts {l : List UInt8} (h : scanN l = l.length) (h0 : l ≠ []) : ∃ sg b d1 d2 ex sg2 d3, l = sg ++ (b ++ ex) ∧ IsSg sg ∧ IsBody b d1 d2 ∧ IsEx ex sg2 d3 := by
  unfold scanN at h
  split at h
  · cases l with
    | nil => exact absurd rfl h0
    | cons c l => simp at h
  · rename_i hc
    obtain ⟨d1, d2, hb⟩ := body_split (l.drop (sgN l)) hc
    obtain ⟨sg2, d3, he⟩ := ex_split (l.drop (sgN l + (runM false (l.drop (sgN l))).1))
    refine ⟨_, _, d1, d2, _, sg2, d3, ?_, (sg_split l).1, hb, he⟩
    have e1 : (l.drop (sgN l + (runM false (l.drop (sgN l))).1)).take (expN (l.drop (sgN l + (runM false (l.drop (sgN l))).1))) = (l.drop (sgN l)).drop (runM false (l.drop (sgN l))).1 := by
      rw [List.drop_drop]
      apply List.take_of_length_le
      rw [List.length_drop]; omega
    rw [e1, List.take_append_drop, List.take_append_drop]
/-- the parts of the number's text that stands ahead -/
theorem scan_ahead {l : List UInt8} (h : scanN l ≠ 0) : ∃ sg b d1 d2 ex sg2 d3, l.take (scanN l) = sg ++ (b ++ ex) ∧ IsSg sg ∧ IsBody b d1 d2 ∧ IsEx ex sg2 d3 := by
  by_cases hc : (runM false (l.drop (sgN l))).2 = 0
  · exact absurd (by unfold scanN; rw [if_pos hc]) h
  · obtain ⟨d1, d2, hb⟩ := body_split (l.drop (sgN l)) hc
    obtain ⟨sg2, d3, he⟩ := ex_split (l.drop (sgN l + (runM false (l.drop (sgN l))).1))
    refine ⟨_, _, d1, d2, _, sg2, d3, ?_, (sg_split l).1, hb, he⟩
    unfold scanN
    rw [if_neg hc, List.take_add, List.take_add, List.append_assoc]
end Go.Proofs.YtjjpdoabagnmoaaGreatDoor

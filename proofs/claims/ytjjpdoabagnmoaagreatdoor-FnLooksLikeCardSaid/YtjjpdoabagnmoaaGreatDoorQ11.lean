/-
  Texts of this claim in one file, in build order: DecTextWalk, ScanL, Scan, ScanI. Each says ahead what it proves and under which conditions.
-/
import Derived.Test.YtjjpdoabagnmoaaGreatDoorQ10
import Derived.Test.YtjjpdoabagnmoaaGreatDoorQ02
import Derived.Test.YtjjpdoabagnmoaaGreatDoorQ01
import Derived.WalkKit
import Derived.WalkLawsBesides
import Derived.WalkSpells
import Derived.BigQuiet
import Derived.Deep.Light
import Derived.Lib.Hide
/-
  The walk of FnExactDecText, out of the contracts. Condition: the table of strconv stands in memory.
-/
namespace Go.Proofs.YtjjpdoabagnmoaaGreatDoor
open Go.RowKit
set_option linter.unusedVariables false
set_option linter.unusedSimpArgs false

theorem betw_out {h : Int} (e : betw h (-7) 20 = false) : h < -7 ∨ 20 < h := by
  simp [betw] at e
  omega
theorem text_nil {n : Bool} {s : ByteArray} {x : Int} (h0 : s.size = 0) : ofL (textL n (bs s) x) = ⟨#[48]⟩ := by
  unfold textL; rw [if_pos (bs_empty h0)]; rfl

theorem decText_any (n : Bool) (s : ByteArray) (x : Int) (w : World) (hT : PowTab w) (hk : decOk n (bs s) x = true) :
    Calls Tryz.prog 42 #[.agg #[.bool n, .string s, .int .i64 x]] w fun e w' => e = .returned (.string (ofL (textL n (bs s) x))) ∧ Below w.heap.size w w' := by
  by_cases h0 : 0 < s.size
  · cases hw : betw (x + s.size - 1) (-7) 20
    · rcases betw_out hw with h | h
      · by_cases h1 : 1 < s.size
        · exact decText_expMN n s x w hT hk h0 hw h1 (by omega)
        · exact decText_expON n s x w hT hk h0 hw (by omega) (by omega)
      · by_cases h1 : 1 < s.size
        · exact decText_expMP n s x w hT hk h0 hw h1 (by omega)
        · exact decText_expOP n s x w hT hk h0 hw (by omega) (by omega)
    · by_cases hx : 0 ≤ x
      · exact decText_whole n s x w hk h0 hw hx
      · by_cases hh : 0 ≤ x + (s.size : Int) - 1
        · exact decText_point n s x w hk h0 hw (by omega) hh
        · exact decText_ahead n s x w hk h0 hw (by omega) (by omega)
  · rw [text_nil (by omega)]
    have hemp := isEmpty_yes (s := s) (by omega)
    go_enter Tryz.func42, Tryz.ntmps42
    go_wp2
    go_ret
    exact ⟨rfl, (Below.refl _ w).alloc (Nat.le_refl _) _⟩

theorem implDecText_no (n : Bool) (s : ByteArray) (x : Int) (w : World) (hs : s.size ≤ maxLen) (hx : (Lit.int .i64 x).wf = true) (hk : decOk n (bs s) x = false) :
    Calls Tryz.prog 18 #[.agg #[.bool n, .string s, .int .i64 x]] w fun e w' => e = .returned (.string ⟨#[]⟩) ∧ Below w.heap.size w w' := by
  go_enter Tryz.func18, Tryz.ntmps18
  go_wp2_with (go_at_call 41; refine (isDec_any _ _ _ _ hs hx).mono ?_; rintro e w1 ⟨rfl, hb1⟩; obtain ⟨hb1c, hb1f⟩ := bcell hb1; have hb1q := hb1.size; (try simp at hb1q); have hb1q0 : w.heap.size < w1.heap.size := (by omega))
  go_ret
  refine ⟨rfl, ?_⟩
  go_light
  (repeat (first | exact Below.refl _ _ | assumption | refine Below.drew ?_ | refine Go.below_drewN ?_ _ | (refine Below.alloc ?_ (by first | exact Nat.le_refl _ | (simp; done) | (simp; omega) | (simp at *; omega)) _) | (refine Below.setCell ?_ (by first | exact Nat.le_refl _ | (simp; done) | (simp; omega)) _) | (refine Below.trans ?_ (Below.mono (by assumption) (by first | exact Nat.le_refl _ | (simp; done) | (simp; omega) | (simp at *; omega))))))
theorem implDecText_yes (n : Bool) (s : ByteArray) (x : Int) (w : World) (hT : PowTab w) (hs : s.size ≤ maxLen) (hx : (Lit.int .i64 x).wf = true) (hk : decOk n (bs s) x = true) :
    Calls Tryz.prog 18 #[.agg #[.bool n, .string s, .int .i64 x]] w fun e w' => e = .returned (.string (ofL (textL n (bs s) x))) ∧ Below w.heap.size w w' := by
  have hI := Lib.hid (fun w hT => decText_any n s x w hT hk)
  go_enter Tryz.func18, Tryz.ntmps18
  go_wp2_with fail
  refine (isDec_any n s x _ hs hx).mono ?_
  rintro e w1 ⟨rfl, hb1⟩
  rw [hk]
  obtain ⟨w0, hw0, hz0, hb0, hc0, hf0⟩ := one_laid w n s x
  rw [hw0] at hb1
  obtain ⟨hz1, hc1, hf1⟩ := one_kept hb1 hz0 hc0 hf0
  have hv1 := hb0.trans (hb1.mono hb0.size)
  clear hw0 hz0 hb0 hc0 hf0 hb1
  go_wp2_with fail
  refine (hI.out _ (hT.below hv1)).mono ?_
  rintro e w2 ⟨rfl, hb2⟩
  go_wp2
  go_ret
  exact ⟨rfl, hv1.trans (hb2.mono hv1.size)⟩

theorem specDecText_no (n : Bool) (s : ByteArray) (x : Int) (w : World) (hs : s.size ≤ maxLen) (hx : (Lit.int .i64 x).wf = true) (hk : decOk n (bs s) x = false) :
    Calls Tryz.prog 16 #[.agg #[.bool n, .string s, .int .i64 x]] w fun e w' => e = .returned (.string ⟨#[]⟩) ∧ Below w.heap.size w w' := by
  go_enter Tryz.func16, Tryz.ntmps16
  go_wp2_with (go_at_call 15; refine (specDecOk_any _ _ _ _ hs hx).mono ?_; rintro e w1 ⟨rfl, hb1⟩; obtain ⟨hb1c, hb1f⟩ := bcell hb1; have hb1q := hb1.size; (try simp at hb1q); have hb1q0 : w.heap.size < w1.heap.size := (by omega))
  go_ret
  refine ⟨rfl, ?_⟩
  go_light
  (repeat (first | exact Below.refl _ _ | assumption | refine Below.drew ?_ | refine Go.below_drewN ?_ _ | (refine Below.alloc ?_ (by first | exact Nat.le_refl _ | (simp; done) | (simp; omega) | (simp at *; omega)) _) | (refine Below.setCell ?_ (by first | exact Nat.le_refl _ | (simp; done) | (simp; omega)) _) | (refine Below.trans ?_ (Below.mono (by assumption) (by first | exact Nat.le_refl _ | (simp; done) | (simp; omega) | (simp at *; omega))))))
theorem specDecText_yes (n : Bool) (s : ByteArray) (x : Int) (w : World) (hs : s.size ≤ maxLen) (hx : (Lit.int .i64 x).wf = true) (hk : decOk n (bs s) x = true) :
    Calls Tryz.prog 16 #[.agg #[.bool n, .string s, .int .i64 x]] w fun e w' => e = .returned (.string (ofL (textL n (bs s) x))) ∧ Below w.heap.size w w' := by
  by_cases h0 : 0 < s.size
  · cases hw : betw (x + s.size - 1) (-7) 20
    · rcases betw_out hw with h | h
      · by_cases h1 : 1 < s.size
        · exact specDecText_expMN n s x w hs hx hk h0 hw h1 (by omega)
        · exact specDecText_expON n s x w hs hx hk h0 hw (by omega) (by omega)
      · by_cases h1 : 1 < s.size
        · exact specDecText_expMP n s x w hs hx hk h0 hw h1 (by omega)
        · exact specDecText_expOP n s x w hs hx hk h0 hw (by omega) (by omega)
    · by_cases hx0 : 0 ≤ x
      · exact specDecText_whole n s x w hs hx hk h0 hw hx0
      · by_cases hh : 0 ≤ x + (s.size : Int) - 1
        · exact specDecText_point n s x w hs hx hk h0 hw (by omega) hh
        · exact specDecText_ahead n s x w hs hx hk h0 hw (by omega) (by omega)
  · rw [text_nil (by omega)]
    have hemp := isEmpty_yes (s := s) (by omega)
    go_enter Tryz.func16, Tryz.ntmps16
    go_wp2_with (go_at_call 15; refine (specDecOk_any _ _ _ _ hs hx).mono ?_; rintro e w1 ⟨rfl, hb1⟩; obtain ⟨hb1c, hb1f⟩ := bcell hb1; have hb1q := hb1.size; (try simp at hb1q); have hb1q0 : w.heap.size < w1.heap.size := (by omega))
    go_ret
    refine ⟨rfl, ?_⟩
    go_light
    (repeat (first | exact Below.refl _ _ | assumption | refine Below.drew ?_ | refine Go.below_drewN ?_ _ | (refine Below.alloc ?_ (by first | exact Nat.le_refl _ | (simp; done) | (simp; omega) | (simp at *; omega)) _) | (refine Below.setCell ?_ (by first | exact Nat.le_refl _ | (simp; done) | (simp; omega)) _) | (refine Below.trans ?_ (Below.mono (by assumption) (by first | exact Nat.le_refl _ | (simp; done) | (simp; omega) | (simp at *; omega))))))


end Go.Proofs.YtjjpdoabagnmoaaGreatDoor
/-
  Plain facts on how far a number's text goes. No program here. No condition.
-/
namespace Go.Proofs.YtjjpdoabagnmoaaGreatDoor
open Go.RowKit

/-- how many digits stand ahead -/
def tw : List UInt8 → Nat
  | [] => 0
  | c :: l => if isDig c = true then tw l + 1 else 0
theorem tw_dig {c : UInt8} {l : List UInt8} (h : isDig c = true) : tw (c :: l) = tw l + 1 := by rw [tw, if_pos h]
theorem tw_stop {c : UInt8} {l : List UInt8} (h : isDig c = false) : tw (c :: l) = 0 := by rw [tw, h]; rfl
theorem tw_le : ∀ l : List UInt8, tw l ≤ l.length
  | [] => Nat.le_refl _
  | c :: l => by
    rw [tw]
    split
    · have := tw_le l; simp; omega
    · exact Nat.zero_le _
theorem tw_split : ∀ l : List UInt8, (l.take (tw l)).all isDig = true ∧ ∀ c r, l.drop (tw l) = c :: r → isDig c = false
  | [] => ⟨rfl, fun c r h => by simp [tw] at h⟩
  | c :: l => by
    obtain ⟨h1, h2⟩ := tw_split l
    by_cases h : isDig c = true
    · rw [tw_dig h]
      refine ⟨by simp [h]; simpa using h1, fun d r e => h2 d r (by simpa using e)⟩
    · have h' : isDig c = false := by simpa using h
      rw [tw_stop h']
      refine ⟨rfl, fun d r e => ?_⟩
      simp at e
      rw [← e.1]; exact h'
/-- how many bytes a sign takes ahead -/
def sgN : List UInt8 → Nat
  | [] => 0
  | c :: _ => if c = 43 ∨ c = 45 then 1 else 0
theorem sgN_le (l : List UInt8) : sgN l ≤ 1 ∧ sgN l ≤ l.length := by
  cases l with
  | nil => exact ⟨Nat.zero_le _, Nat.le_refl _⟩
  | cons c l => rw [sgN]; split <;> simp
/-- the body of a number's text: how many bytes it takes, and how many of them are digits; 'p': the point is behind -/
def runM : Bool → List UInt8 → Nat × Nat
  | _, [] => (0, 0)
  | p, c :: l => if isDig c = true then ((runM p l).1 + 1, (runM p l).2 + 1) else if c = 46 ∧ p = false then ((runM true l).1 + 1, (runM true l).2) else (0, 0)
theorem runM_dig {p : Bool} {c : UInt8} {l : List UInt8} (h : isDig c = true) : runM p (c :: l) = ((runM p l).1 + 1, (runM p l).2 + 1) := by
  rw [runM, if_pos h]
theorem runM_point {l : List UInt8} : runM false (46 :: l) = ((runM true l).1 + 1, (runM true l).2) := by
  rw [runM, if_neg (by decide), if_pos ⟨rfl, rfl⟩]
theorem runM_stop {p : Bool} {c : UInt8} {l : List UInt8} (h : isDig c = false) (h2 : c ≠ 46 ∨ p = true) : runM p (c :: l) = (0, 0) := by
  rw [runM, if_neg (by rw [h]; decide), if_neg]
  rintro ⟨e1, e2⟩
  rcases h2 with h2 | h2
  · exact h2 e1
  · rw [h2] at e2; exact absurd e2 (by decide)
theorem runM_true : ∀ l : List UInt8, runM true l = (tw l, tw l)
  | [] => rfl
  | c :: l => by
    by_cases h : isDig c = true
    · rw [runM_dig h, tw_dig h, runM_true l]
    · have h' : isDig c = false := by simpa using h
      rw [runM_stop h' (.inr rfl), tw_stop h']
theorem runM_nodot : ∀ l : List UInt8, (∀ c r, l.drop (tw l) = c :: r → c ≠ 46) → runM false l = (tw l, tw l)
  | [], _ => rfl
  | c :: l, hh => by
    by_cases h : isDig c = true
    · rw [tw_dig h] at hh
      rw [runM_dig h, tw_dig h, runM_nodot l (fun d r e => hh d r (by simpa using e))]
    · have h' : isDig c = false := by simpa using h
      rw [tw_stop h'] at hh
      rw [runM_stop h' (.inl (hh c l rfl)), tw_stop h']
theorem runM_dot : ∀ (l r : List UInt8), l.drop (tw l) = 46 :: r → runM false l = (tw l + 1 + tw r, tw l + tw r)
  | [], r, h => by simp at h
  | c :: l, r, hh => by
    by_cases h : isDig c = true
    · rw [tw_dig h] at hh
      rw [runM_dig h, tw_dig h, runM_dot l r (by simpa using hh)]
      simp; omega
    · have h' : isDig c = false := by simpa using h
      rw [tw_stop h'] at hh
      simp at hh
      obtain ⟨rfl, rfl⟩ := hh
      rw [runM_point, runM_true, tw_stop h']
      simp; omega
theorem runM_le : ∀ (l : List UInt8) (p : Bool), (runM p l).1 ≤ l.length ∧ (runM p l).2 ≤ (runM p l).1
  | [], _ => ⟨Nat.le_refl _, Nat.le_refl _⟩
  | c :: l, p => by
    rw [runM]
    split
    · have := runM_le l p; simp; omega
    · split
      · have := runM_le l true; simp; omega
      · simp
/-- the exponent's bytes -/
def expN : List UInt8 → Nat
  | [] => 0
  | c :: r => if c = 101 ∨ c = 69 then if 0 < tw (r.drop (sgN r)) then 1 + sgN r + tw (r.drop (sgN r)) else 0 else 0
theorem expN_le (l : List UInt8) : expN l ≤ l.length := by
  cases l with
  | nil => exact Nat.le_refl _
  | cons c r =>
    rw [expN]
    have h1 := tw_le (r.drop (sgN r))
    have h2 := sgN_le r
    rw [List.length_drop] at h1
    split
    · split
      · simp; omega
      · simp
    · simp
/-- how far a number's text goes -/
def scanN (l : List UInt8) : Nat :=
  if (runM false (l.drop (sgN l))).2 = 0 then 0 else sgN l + (runM false (l.drop (sgN l))).1 + expN (l.drop (sgN l + (runM false (l.drop (sgN l))).1))
theorem scanN_le (l : List UInt8) : scanN l ≤ l.length := by
  unfold scanN
  have h1 := (runM_le (l.drop (sgN l)) false).1
  have h2 := sgN_le l
  have h3 := expN_le (l.drop (sgN l + (runM false (l.drop (sgN l))).1))
  rw [List.length_drop] at h1 h3
  split
  · exact Nat.zero_le _
  · omega

/-- a sign's bytes -/
def IsSg (l : List UInt8) : Prop := l = [] ∨ l = [43] ∨ l = [45]
/-- an exponent's parts -/
def IsEx (ex sg d : List UInt8) : Prop := (ex = [] ∧ sg = [] ∧ d = []) ∨ (∃ c, (c = 101 ∨ c = 69) ∧ ex = c :: (sg ++ d) ∧ IsSg sg ∧ d.all isDig = true ∧ d ≠ [])
theorem sg_split (l : List UInt8) : IsSg (l.take (sgN l)) ∧ ∀ c r, l.drop (sgN l) = c :: r → sgN l = 0 → c ≠ 43 ∧ c ≠ 45 := by
  cases l with
  | nil => exact ⟨.inl rfl, fun c r h => by simp at h⟩
  | cons c l =>
    rw [sgN]
    split
    · rename_i h
      refine ⟨?_, fun d r _ e => absurd e (by decide)⟩
      rcases h with rfl | rfl
      · exact .inr (.inl rfl)
      · exact .inr (.inr rfl)
    · rename_i h
      refine ⟨.inl rfl, fun d r e _ => ?_⟩
      simp at e
      rw [← e.1]
      exact ⟨fun e => h (.inl e), fun e => h (.inr e)⟩
theorem ex_split (l : List UInt8) : ∃ sg d, IsEx (l.take (expN l)) sg d := by
  cases l with
  | nil => exact ⟨[], [], .inl ⟨rfl, rfl, rfl⟩⟩
  | cons c r =>
    rw [expN]
    split
    · rename_i h
      split
      · rename_i h2
        refine ⟨r.take (sgN r), (r.drop (sgN r)).take (tw (r.drop (sgN r))), .inr ⟨c, h, ?_, (sg_split r).1, (tw_split _).1, ?_⟩⟩
        · rw [show 1 + sgN r + tw (r.drop (sgN r)) = (sgN r + tw (r.drop (sgN r))) + 1 by omega, List.take_succ_cons, List.take_add]
        · intro e
          have := congrArg List.length e
          rw [List.length_take] at this
          have := tw_le (r.drop (sgN r))
          simp at *
          omega
      · exact ⟨[], [], .inl ⟨rfl, rfl, rfl⟩⟩
    · exact ⟨[], [], .inl ⟨rfl, rfl, rfl⟩⟩
/-- the body's parts -/
def IsBody (b d1 d2 : List UInt8) : Prop := (b = d1 ∧ d2 = [] ∧ d1.all isDig = true ∧ d1 ≠ []) ∨ (b = d1 ++ 46 :: d2 ∧ d1.all isDig = true ∧ d2.all isDig = true ∧ d1 ++ d2 ≠ [])
theorem body_split (l : List UInt8) (h : (runM false l).2 ≠ 0) : ∃ d1 d2, IsBody (l.take (runM false l).1) d1 d2 := by
  by_cases hd : ∃ r, l.drop (tw l) = 46 :: r
  · obtain ⟨r, hr⟩ := hd
    rw [runM_dot l r hr] at h ⊢
    refine ⟨l.take (tw l), r.take (tw r), .inr ⟨?_, (tw_split l).1, (tw_split r).1, ?_⟩⟩
    · show l.take (tw l + 1 + tw r) = _
      rw [show tw l + 1 + tw r = tw l + (tw r + 1) by omega, List.take_add, hr, List.take_succ_cons]
    · intro e
      have e3 := congrArg List.length e
      have h1 := tw_le l
      have h2 := tw_le r
      rw [List.length_append, List.length_take, List.length_take, List.length_nil] at e3
      have h3 : tw l + tw r ≠ 0 := h
      omega
  · have hn := runM_nodot l (fun c r e e2 => hd ⟨r, by rw [e, e2]⟩)
    rw [hn] at h ⊢
    refine ⟨l.take (tw l), [], .inl ⟨rfl, rfl, (tw_split l).1, ?_⟩⟩
    intro e
    have e3 := congrArg List.length e
    have h1 := tw_le l
    rw [List.length_take, List.length_nil] at e3
    have h3 : tw l ≠ 0 := h
    omega
/-- a number's text and its parts -/
theorem scan_parts {l : List UInt8} (h : scanN l = l.length) (h0 : l ≠ []) : ∃ sg b d1 d2 ex sg2 d3, l = sg ++ (b ++ ex) ∧ IsSg sg ∧ IsBody b d1 d2 ∧ IsEx ex sg2 d3 := by
  unfold scanN at h
  split at h
  · cases l with
    | nil => exact absurd rfl h0
    | cons c l => simp at h
  · rename_i hc
    obtain ⟨d1, d2, hb⟩ := body_split (l.drop (sgN l)) hc
    obtain ⟨sg2, d3, he⟩ := ex_split (l.drop (sgN l + (runM false (l.drop (sgN l))).1))
    refine ⟨_, _, d1, d2, _, sg2, d3, ?_, (sg_split l).1, hb, he⟩
    have e1 : (l.drop (sgN l + (runM false (l.drop (sgN l))).1)).take (expN (l.drop (sgN l + (runM false (l.drop (sgN l))).1))) = (l.drop (sgN l)).drop (runM false (l.drop (sgN l))).1 := by
      rw [List.drop_drop]
      apply List.take_of_length_le
      rw [List.length_drop]; omega
    rw [e1, List.take_append_drop, List.take_append_drop]
/-- the parts of the number's text that stands ahead -/
theorem scan_ahead {l : List UInt8} (h : scanN l ≠ 0) : ∃ sg b d1 d2 ex sg2 d3, l.take (scanN l) = sg ++ (b ++ ex) ∧ IsSg sg ∧ IsBody b d1 d2 ∧ IsEx ex sg2 d3 := by
  by_cases hc : (runM false (l.drop (sgN l))).2 = 0
  · exact absurd (by unfold scanN; rw [if_pos hc]) h
  · obtain ⟨d1, d2, hb⟩ := body_split (l.drop (sgN l)) hc
    obtain ⟨sg2, d3, he⟩ := ex_split (l.drop (sgN l + (runM false (l.drop (sgN l))).1))
    refine ⟨_, _, d1, d2, _, sg2, d3, ?_, (sg_split l).1, hb, he⟩
    unfold scanN
    rw [if_neg hc, List.take_add, List.take_add, List.append_assoc]
end Go.Proofs.YtjjpdoabagnmoaaGreatDoor
/-
  The contracts of the small helpers of reading numbers: isSign, digitsEnd, l03Digit. Conditions: a place within the string or behind it.
-/
namespace Go.Proofs.YtjjpdoabagnmoaaGreatDoor
open Go.RowKit
set_option linter.unusedVariables false
set_option linter.unusedSimpArgs false

/-- a sign stands ahead -/
def sgB (l : List UInt8) : Bool := decide (sgN l = 1)
theorem sgB_at {s : ByteArray} {k : Nat} (h : k < s.size) : sgB ((bs s).drop k) = (decide ((s[k].toNat : Int) = 43) || decide ((s[k].toNat : Int) = 45)) := by
  rw [bs_drop s k h]
  unfold sgB
  rw [sgN]
  by_cases h1 : (s[k].toNat : Int) = 43
  · have : s[k] = 43 := u8_eq (d := 43) h1
    rw [if_pos (.inl this), decide_eq_true h1]; rfl
  · by_cases h2 : (s[k].toNat : Int) = 45
    · have : s[k] = 45 := u8_eq (d := 45) h2
      rw [if_pos (.inr this), decide_eq_true h2]; simp
    · rw [if_neg, decide_eq_false h1, decide_eq_false h2]; · rfl
      rintro (e | e)
      · exact h1 (by rw [e]; rfl)
      · exact h2 (by rw [e]; rfl)
theorem drop_over {s : ByteArray} {k : Nat} (h : ¬ k < s.size) : (bs s).drop k = [] := List.drop_of_length_le (by rw [bs_length]; omega)
theorem isSign_any (s : ByteArray) (k : Nat) (w : World) (hs : s.size ≤ maxLen) (hk : k ≤ 1099511627776) :
    Calls Tryz.prog 72 #[.string s, .int .i64 (k : Int)] w fun e w' => e = .returned (.bool (sgB ((bs s).drop k))) ∧ w' = w := by
  unfold maxLen at hs
  by_cases h : k < s.size
  · have H := Lib.hid (sgB_at h)
    go_enter Tryz.func72, Tryz.ntmps72
    go_wp2
    all_goals go_ret
    all_goals refine ⟨ret_bool ?_, rfl⟩
    all_goals rw [H.out]
    all_goals first
      | (simp [*]; done)
      | (rename_i h43; rw [beq_eq_false_iff_ne.2 h43, decide_eq_false h43]; simp only [Bool.false_or]; rw [Bool.eq_iff_iff, beq_iff_eq, decide_eq_true_iff]; done)
  · have H := Lib.hid (drop_over h)
    go_enter Tryz.func72, Tryz.ntmps72
    go_wp2
    go_ret
    refine ⟨ret_bool ?_, rfl⟩
    rw [H.out]; rfl
theorem digitsEnd_any (s : ByteArray) (k : Nat) (w : World) (hs : s.size ≤ 1099511627776) (hk : k ≤ s.size) :
    Calls Tryz.prog 73 #[.string s, .int .i64 (k : Int)] w fun e w' => e = .returned (.int .i64 ((k + tw ((bs s).drop k) : Nat) : Int)) ∧ w' = w := by
  obtain ⟨K, hK⟩ : ∃ K, k + tw ((bs s).drop k) = K := ⟨_, rfl⟩
  rw [hK]
  have HK := Lib.hid hK
  clear hK
  go_enter Tryz.func73, Tryz.ntmps73
  go_wp2
  go_loop [1] (fun i => ∃ j : Nat, j ≤ s.size ∧ i = .int .i64 (j : Int) ∧ j + tw ((bs s).drop j) = K) (fun i => s.size - (intOf i).toNat)
  case atStart => exact ⟨k, hk, rfl, HK.out⟩
  case round =>
    obtain ⟨j, hj, rfl, hJ⟩ := hrel
    have HJ := Lib.hid hJ
    clear hJ
    by_cases hlt : j < s.size
    · have HD := Lib.hid (bs_drop s j hlt)
      go_wp2
      all_goals first
        | (go_round
           case rel =>
             refine ⟨j + 1, by omega, by go_num, ?_⟩
             rw [← HJ.out, HD.out, tw_dig ((isDig_iff _).2 ⟨by omega, by omega⟩)]
             omega
           case measure => simp [intOf]; omega)
        | (go_ret
           refine ⟨ret_int ?_, rfl⟩
           rw [← HJ.out, HD.out, tw_stop (isDig_no (by omega))]
           rfl)
    · have HD := Lib.hid (drop_over hlt)
      go_wp2
      go_ret
      refine ⟨ret_int ?_, rfl⟩
      rw [← HJ.out, HD.out]
      rfl
theorem digitsEnd_to (s : ByteArray) (x : Int) (k e : Nat) (w : World) (hx : x = (k : Int)) (he : k + tw ((bs s).drop k) = e) (hs : s.size ≤ 1099511627776) (hk : k ≤ s.size) :
    Calls Tryz.prog 73 #[.string s, .int .i64 x] w fun r w' => r = .returned (.int .i64 (e : Int)) ∧ w' = w := by
  subst hx he
  exact digitsEnd_any s k w hs hk
theorem isSign_to (s : ByteArray) (x : Int) (k : Nat) (b : Bool) (w : World) (hx : x = (k : Int)) (hb : sgB ((bs s).drop k) = b) (hs : s.size ≤ 1099511627776) (hk : k ≤ 1099511627776) :
    Calls Tryz.prog 72 #[.string s, .int .i64 x] w fun e w' => e = .returned (.bool b) ∧ w' = w := by
  subst hx hb
  exact isSign_any s k w (by unfold maxLen; omega) hk
theorem l03Digit_any (c : UInt8) (w : World) :
    Calls Tryz.prog 58 #[.int .u8 (c.toNat : Int)] w fun e w' => e = .returned (.bool (isDig c)) ∧ w' = w := by
  go_enter Tryz.func58, Tryz.ntmps58
  go_wp2
  all_goals go_ret
  all_goals refine ⟨ret_bool ?_, rfl⟩
  all_goals unfold isDig
  all_goals (simp [*] <;> omega)
end Go.Proofs.YtjjpdoabagnmoaaGreatDoor
/-
  The contract of impl.decEnd: how far a number's text goes. Condition: a string no longer than 2 to the 40.
-/
namespace Go.Proofs.YtjjpdoabagnmoaaGreatDoor
open Go.RowKit
set_option linter.unusedVariables false
set_option linter.unusedSimpArgs false

theorem expN_at {s : ByteArray} {k : Nat} (h : k < s.size) : expN ((bs s).drop k) = if (s[k].toNat : Int) = 101 ∨ (s[k].toNat : Int) = 69 then
    if 0 < tw ((bs s).drop (k + 1 + sgN ((bs s).drop (k + 1)))) then 1 + sgN ((bs s).drop (k + 1)) + tw ((bs s).drop (k + 1 + sgN ((bs s).drop (k + 1)))) else 0 else 0 := by
  rw [bs_drop s k h, expN, List.drop_drop]
  have e : (s[k] = 101 ∨ s[k] = 69) ↔ ((s[k].toNat : Int) = 101 ∨ (s[k].toNat : Int) = 69) :=
    ⟨fun h => h.elim (fun h => .inl (by rw [h]; rfl)) (fun h => .inr (by rw [h]; rfl)), fun h => h.elim (fun h => .inl (u8_eq (d := 101) h)) (fun h => .inr (u8_eq (d := 69) h))⟩
  simp only [e]
theorem sgN_of {l : List UInt8} {b : Bool} (h : sgB l = b) : sgN l = if b then 1 else 0 := by
  have := (sgN_le l).1
  cases b with
  | true => unfold sgB at h; simp at h; exact h
  | false => unfold sgB at h; simp at h; simp; omega
theorem dot_at {s : ByteArray} {k : Nat} (h : k < s.size) (h2 : (s[k].toNat : Int) = 46) : (bs s).drop k = 46 :: (bs s).drop (k + 1) := by
  rw [bs_drop s k h, u8_eq (d := 46) h2]
/-- the body's end and its digits -/
theorem body_nodot {s : ByteArray} {a e : Nat} (he : a + tw ((bs s).drop a) = e) (h : e < s.size → ∀ h : e < s.size, (s[e].toNat : Int) ≠ 46) : runM false ((bs s).drop a) = (e - a, e - a) := by
  have e1 : e - a = tw ((bs s).drop a) := by omega
  rw [e1]
  apply runM_nodot
  intro c r hc
  rw [List.drop_drop, he] at hc
  by_cases hl : e < s.size
  · rw [bs_drop s e hl] at hc
    simp at hc
    intro e2
    exact h hl hl (by rw [hc.1, e2]; rfl)
  · rw [drop_over hl] at hc; simp at hc
theorem body_dot {s : ByteArray} {a e f : Nat} (he : a + tw ((bs s).drop a) = e) (h : e < s.size) (h2 : (s[e].toNat : Int) = 46) (hf : e + 1 + tw ((bs s).drop (e + 1)) = f) : runM false ((bs s).drop a) = (f - a, (e - a) + (f - e - 1)) := by
  have e1 : e - a = tw ((bs s).drop a) := by omega
  have e2 : f - e - 1 = tw ((bs s).drop (e + 1)) := by omega
  have := runM_dot ((bs s).drop a) ((bs s).drop (e + 1)) (by rw [List.drop_drop, he]; exact dot_at h h2)
  rw [this, e1, e2]
  congr 1
  omega
theorem tw_end {s : ByteArray} {k : Nat} (h : k ≤ s.size) : k + tw ((bs s).drop k) ≤ s.size := by
  have := tw_le ((bs s).drop k)
  rw [List.length_drop, bs_length] at this
  omega
theorem scan_tail {s : ByteArray} {K z : Nat} (E C : Nat) (hE : E ≤ s.size) (hK : (if C = 0 then z else E + expN ((bs s).drop E)) = K) :
    (¬ E < s.size ∧ (if C = 0 then z else E) = K) ∨ (∃ h : E < s.size, ¬ (s[E].toNat : Int) = 101 ∧ ¬ (s[E].toNat : Int) = 69 ∧ (if C = 0 then z else E) = K) ∨
    ∃ (b2 : Bool) (F L : Nat) (h : E < s.size), ((s[E].toNat : Int) = 101 ∨ (s[E].toNat : Int) = 69) ∧ sgB ((bs s).drop (E + 1)) = b2 ∧ F = (if b2 then E + 1 + 1 else E + 1) ∧ F ≤ s.size ∧ F + tw ((bs s).drop F) = L ∧ (if C = 0 then z else if F < L then L else E) = K := by
  by_cases hl : E < s.size
  · rw [expN_at hl] at hK
    by_cases hx : (s[E].toNat : Int) = 101 ∨ (s[E].toNat : Int) = 69
    · rw [if_pos hx] at hK
      obtain ⟨b2, hb2⟩ : ∃ b2, sgB ((bs s).drop (E + 1)) = b2 := ⟨_, rfl⟩
      have e := sgN_of hb2
      have hle := (sgN_le ((bs s).drop (E + 1))).2
      rw [List.length_drop, bs_length] at hle
      obtain ⟨g, hg⟩ : ∃ g, sgN ((bs s).drop (E + 1)) = g := ⟨_, rfl⟩
      rw [hg] at hK e hle
      refine .inr (.inr ⟨b2, E + 1 + g, _, hl, hx, hb2, ?_, by omega, rfl, ?_⟩)
      · rw [e]; cases b2 <;> rfl
      · rw [← hK]
        by_cases hc : C = 0
        · rw [if_pos hc, if_pos hc]
        · rw [if_neg hc, if_neg hc]
          by_cases h0 : 0 < tw ((bs s).drop (E + 1 + g))
          · rw [if_pos (by omega), if_pos h0]; omega
          · rw [if_neg (by omega), if_neg h0]; omega
    · rw [if_neg hx] at hK
      exact .inr (.inl ⟨hl, fun e => hx (.inl e), fun e => hx (.inr e), hK⟩)
  · rw [drop_over hl] at hK
    exact .inl ⟨hl, hK⟩
-- GENERATED by gen_scan.py from here
set_option maxHeartbeats 2000000 in
theorem decEnd_0d_end (s : ByteArray) (K e1 e2 : Nat) (w : World) (hs : s.size ≤ 1099511627776) (hb : sgB ((bs s).drop 0) = false) (has : 0 ≤ s.size) (he1 : 0 + tw ((bs s).drop 0) = e1) (he1s : e1 ≤ s.size) (hd1 : e1 < s.size) (hd2 : (s[e1].toNat : Int) = 46) (he2 : e1 + 1 + tw ((bs s).drop (e1 + 1)) = e2) (he2s : e2 ≤ s.size) (h12 : e1 + 1 ≤ e2) (ha1 : 0 ≤ e1) (C : Nat) (hC : (e1 - 0) + (e2 - e1 - 1) = C) (hx1 : ¬ e2 < s.size) (hK : (if C = 0 then 0 else e2) = K) :
    Calls Tryz.prog 43 #[.string s] w fun e w' => e = .returned (.int .i64 (K : Int)) ∧ w' = w := by
  have HB := Lib.hid hb
  have HE1 := Lib.hid he1
  have HK := Lib.hid hK
  have HC := Lib.hid hC
  have HE2 := Lib.hid he2
  clear hb he1 hK hC he2
  go_enter Tryz.func43, Tryz.ntmps43
  go_wp2_with (first
    | (go_at_call 72; refine (isSign_to _ _ 0 _ _ (by omega) HB.out hs (by omega)).mono ?_; rintro e w1 ⟨rfl, rfl⟩)
    | (go_at_call 73; refine (digitsEnd_to _ _ 0 e1 _ (by omega) HE1.out hs has).mono ?_; rintro e w1 ⟨rfl, rfl⟩)
    | (go_at_call 73; refine (digitsEnd_to _ _ (e1 + 1) e2 _ (by omega) HE2.out hs (by omega)).mono ?_; rintro e w1 ⟨rfl, rfl⟩)
    | go_in)
  all_goals go_ret
  all_goals refine ⟨ret_int ?_, rfl⟩
  all_goals go_light
  all_goals (have hK := HK.out; have hC := HC.out; (try simp only [beq_iff_eq, beq_eq_false_iff_ne, ne_eq] at *); split at hK <;> (try split at hK) <;> omega)
set_option maxHeartbeats 2000000 in
theorem decEnd_0d_no (s : ByteArray) (K e1 e2 : Nat) (w : World) (hs : s.size ≤ 1099511627776) (hb : sgB ((bs s).drop 0) = false) (has : 0 ≤ s.size) (he1 : 0 + tw ((bs s).drop 0) = e1) (he1s : e1 ≤ s.size) (hd1 : e1 < s.size) (hd2 : (s[e1].toNat : Int) = 46) (he2 : e1 + 1 + tw ((bs s).drop (e1 + 1)) = e2) (he2s : e2 ≤ s.size) (h12 : e1 + 1 ≤ e2) (ha1 : 0 ≤ e1) (C : Nat) (hC : (e1 - 0) + (e2 - e1 - 1) = C) (hx1 : e2 < s.size) (hx2 : ¬ (s[e2].toNat : Int) = 101) (hx3 : ¬ (s[e2].toNat : Int) = 69) (hK : (if C = 0 then 0 else e2) = K) :
    Calls Tryz.prog 43 #[.string s] w fun e w' => e = .returned (.int .i64 (K : Int)) ∧ w' = w := by
  have HB := Lib.hid hb
  have HE1 := Lib.hid he1
  have HK := Lib.hid hK
  have HC := Lib.hid hC
  have HE2 := Lib.hid he2
  clear hb he1 hK hC he2
  have hy2 : ((s[e2].toNat : Int) == 101) = false := beq_eq_false_iff_ne.2 hx2
  have hy3 : ((s[e2].toNat : Int) == 69) = false := beq_eq_false_iff_ne.2 hx3
  go_enter Tryz.func43, Tryz.ntmps43
  go_wp2_with (first
    | (go_at_call 72; refine (isSign_to _ _ 0 _ _ (by omega) HB.out hs (by omega)).mono ?_; rintro e w1 ⟨rfl, rfl⟩)
    | (go_at_call 73; refine (digitsEnd_to _ _ 0 e1 _ (by omega) HE1.out hs has).mono ?_; rintro e w1 ⟨rfl, rfl⟩)
    | (go_at_call 73; refine (digitsEnd_to _ _ (e1 + 1) e2 _ (by omega) HE2.out hs (by omega)).mono ?_; rintro e w1 ⟨rfl, rfl⟩)
    | go_in)
  all_goals go_ret
  all_goals refine ⟨ret_int ?_, rfl⟩
  all_goals go_light
  all_goals (have hK := HK.out; have hC := HC.out; (try simp only [beq_iff_eq, beq_eq_false_iff_ne, ne_eq] at *); split at hK <;> (try split at hK) <;> omega)
set_option maxHeartbeats 2000000 in
theorem decEnd_0d_sg (s : ByteArray) (K e1 e2 : Nat) (w : World) (hs : s.size ≤ 1099511627776) (hb : sgB ((bs s).drop 0) = false) (has : 0 ≤ s.size) (he1 : 0 + tw ((bs s).drop 0) = e1) (he1s : e1 ≤ s.size) (hd1 : e1 < s.size) (hd2 : (s[e1].toNat : Int) = 46) (he2 : e1 + 1 + tw ((bs s).drop (e1 + 1)) = e2) (he2s : e2 ≤ s.size) (h12 : e1 + 1 ≤ e2) (ha1 : 0 ≤ e1) (C : Nat) (hC : (e1 - 0) + (e2 - e1 - 1) = C) (hx1 : e2 < s.size) (hx2 : (s[e2].toNat : Int) = 101 ∨ (s[e2].toNat : Int) = 69) (hb2 : sgB ((bs s).drop (e2 + 1)) = true) (L : Nat) (hF : e2 + 1 + 1 ≤ s.size) (hL : e2 + 1 + 1 + tw ((bs s).drop (e2 + 1 + 1)) = L) (hK : (if C = 0 then 0 else if e2 + 1 + 1 < L then L else e2) = K) :
    Calls Tryz.prog 43 #[.string s] w fun e w' => e = .returned (.int .i64 (K : Int)) ∧ w' = w := by
  have HB := Lib.hid hb
  have HE1 := Lib.hid he1
  have HK := Lib.hid hK
  have HC := Lib.hid hC
  have HE2 := Lib.hid he2
  have HB2 := Lib.hid hb2
  have HL := Lib.hid hL
  clear hb he1 hK hC he2 hb2 hL
  rcases hx2 with hx2 | hx2
  all_goals
    go_enter Tryz.func43, Tryz.ntmps43
    go_wp2_with (first
      | (go_at_call 72; refine (isSign_to _ _ 0 _ _ (by omega) HB.out hs (by omega)).mono ?_; rintro e w1 ⟨rfl, rfl⟩)
      | (go_at_call 73; refine (digitsEnd_to _ _ 0 e1 _ (by omega) HE1.out hs has).mono ?_; rintro e w1 ⟨rfl, rfl⟩)
      | (go_at_call 73; refine (digitsEnd_to _ _ (e1 + 1) e2 _ (by omega) HE2.out hs (by omega)).mono ?_; rintro e w1 ⟨rfl, rfl⟩)
      | (go_at_call 72; refine (isSign_to _ _ (e2 + 1) _ _ (by omega) HB2.out hs (by omega)).mono ?_; rintro e w1 ⟨rfl, rfl⟩)
      | (go_at_call 73; refine (digitsEnd_to _ _ (e2 + 1 + 1) L _ (by omega) HL.out hs (by omega)).mono ?_; rintro e w1 ⟨rfl, rfl⟩)
      | go_in)
    all_goals go_ret
    all_goals refine ⟨ret_int ?_, rfl⟩
    all_goals go_light
    all_goals (have hK := HK.out; have hC := HC.out; (try simp only [beq_iff_eq, beq_eq_false_iff_ne, ne_eq] at *); split at hK <;> (try split at hK) <;> omega)
set_option maxHeartbeats 2000000 in
theorem decEnd_0d_un (s : ByteArray) (K e1 e2 : Nat) (w : World) (hs : s.size ≤ 1099511627776) (hb : sgB ((bs s).drop 0) = false) (has : 0 ≤ s.size) (he1 : 0 + tw ((bs s).drop 0) = e1) (he1s : e1 ≤ s.size) (hd1 : e1 < s.size) (hd2 : (s[e1].toNat : Int) = 46) (he2 : e1 + 1 + tw ((bs s).drop (e1 + 1)) = e2) (he2s : e2 ≤ s.size) (h12 : e1 + 1 ≤ e2) (ha1 : 0 ≤ e1) (C : Nat) (hC : (e1 - 0) + (e2 - e1 - 1) = C) (hx1 : e2 < s.size) (hx2 : (s[e2].toNat : Int) = 101 ∨ (s[e2].toNat : Int) = 69) (hb2 : sgB ((bs s).drop (e2 + 1)) = false) (L : Nat) (hF : e2 + 1 ≤ s.size) (hL : e2 + 1 + tw ((bs s).drop (e2 + 1)) = L) (hK : (if C = 0 then 0 else if e2 + 1 < L then L else e2) = K) :
    Calls Tryz.prog 43 #[.string s] w fun e w' => e = .returned (.int .i64 (K : Int)) ∧ w' = w := by
  have HB := Lib.hid hb
  have HE1 := Lib.hid he1
  have HK := Lib.hid hK
  have HC := Lib.hid hC
  have HE2 := Lib.hid he2
  have HB2 := Lib.hid hb2
  have HL := Lib.hid hL
  clear hb he1 hK hC he2 hb2 hL
  rcases hx2 with hx2 | hx2
  all_goals
    go_enter Tryz.func43, Tryz.ntmps43
    go_wp2_with (first
      | (go_at_call 72; refine (isSign_to _ _ 0 _ _ (by omega) HB.out hs (by omega)).mono ?_; rintro e w1 ⟨rfl, rfl⟩)
      | (go_at_call 73; refine (digitsEnd_to _ _ 0 e1 _ (by omega) HE1.out hs has).mono ?_; rintro e w1 ⟨rfl, rfl⟩)
      | (go_at_call 73; refine (digitsEnd_to _ _ (e1 + 1) e2 _ (by omega) HE2.out hs (by omega)).mono ?_; rintro e w1 ⟨rfl, rfl⟩)
      | (go_at_call 72; refine (isSign_to _ _ (e2 + 1) _ _ (by omega) HB2.out hs (by omega)).mono ?_; rintro e w1 ⟨rfl, rfl⟩)
      | (go_at_call 73; refine (digitsEnd_to _ _ (e2 + 1) L _ (by omega) HL.out hs (by omega)).mono ?_; rintro e w1 ⟨rfl, rfl⟩)
      | go_in)
    all_goals go_ret
    all_goals refine ⟨ret_int ?_, rfl⟩
    all_goals go_light
    all_goals (have hK := HK.out; have hC := HC.out; (try simp only [beq_iff_eq, beq_eq_false_iff_ne, ne_eq] at *); split at hK <;> (try split at hK) <;> omega)
set_option maxHeartbeats 2000000 in
theorem decEnd_0e_end (s : ByteArray) (K e1 : Nat) (w : World) (hs : s.size ≤ 1099511627776) (hb : sgB ((bs s).drop 0) = false) (has : 0 ≤ s.size) (he1 : 0 + tw ((bs s).drop 0) = e1) (he1s : e1 ≤ s.size) (hd1 : ¬ e1 < s.size) (ha1 : 0 ≤ e1) (C : Nat) (hC : e1 - 0 = C) (hK : (if C = 0 then 0 else e1) = K) :
    Calls Tryz.prog 43 #[.string s] w fun e w' => e = .returned (.int .i64 (K : Int)) ∧ w' = w := by
  have HB := Lib.hid hb
  have HE1 := Lib.hid he1
  have HK := Lib.hid hK
  have HC := Lib.hid hC
  clear hb he1 hK hC
  go_enter Tryz.func43, Tryz.ntmps43
  go_wp2_with (first
    | (go_at_call 72; refine (isSign_to _ _ 0 _ _ (by omega) HB.out hs (by omega)).mono ?_; rintro e w1 ⟨rfl, rfl⟩)
    | (go_at_call 73; refine (digitsEnd_to _ _ 0 e1 _ (by omega) HE1.out hs has).mono ?_; rintro e w1 ⟨rfl, rfl⟩)
    | go_in)
  all_goals go_ret
  all_goals refine ⟨ret_int ?_, rfl⟩
  all_goals go_light
  all_goals (have hK := HK.out; have hC := HC.out; (try simp only [beq_iff_eq, beq_eq_false_iff_ne, ne_eq] at *); split at hK <;> (try split at hK) <;> omega)
set_option maxHeartbeats 2000000 in
theorem decEnd_0i_no (s : ByteArray) (K e1 : Nat) (w : World) (hs : s.size ≤ 1099511627776) (hb : sgB ((bs s).drop 0) = false) (has : 0 ≤ s.size) (he1 : 0 + tw ((bs s).drop 0) = e1) (he1s : e1 ≤ s.size) (hd1 : e1 < s.size) (hd2 : ¬ (s[e1].toNat : Int) = 46) (ha1 : 0 ≤ e1) (C : Nat) (hC : e1 - 0 = C) (hx2 : ¬ (s[e1].toNat : Int) = 101) (hx3 : ¬ (s[e1].toNat : Int) = 69) (hK : (if C = 0 then 0 else e1) = K) :
    Calls Tryz.prog 43 #[.string s] w fun e w' => e = .returned (.int .i64 (K : Int)) ∧ w' = w := by
  have HB := Lib.hid hb
  have HE1 := Lib.hid he1
  have HK := Lib.hid hK
  have HC := Lib.hid hC
  clear hb he1 hK hC
  have hy2 : ((s[e1].toNat : Int) == 101) = false := beq_eq_false_iff_ne.2 hx2
  have hy3 : ((s[e1].toNat : Int) == 69) = false := beq_eq_false_iff_ne.2 hx3
  go_enter Tryz.func43, Tryz.ntmps43
  go_wp2_with (first
    | (go_at_call 72; refine (isSign_to _ _ 0 _ _ (by omega) HB.out hs (by omega)).mono ?_; rintro e w1 ⟨rfl, rfl⟩)
    | (go_at_call 73; refine (digitsEnd_to _ _ 0 e1 _ (by omega) HE1.out hs has).mono ?_; rintro e w1 ⟨rfl, rfl⟩)
    | go_in)
  all_goals go_ret
  all_goals refine ⟨ret_int ?_, rfl⟩
  all_goals go_light
  all_goals (have hK := HK.out; have hC := HC.out; (try simp only [beq_iff_eq, beq_eq_false_iff_ne, ne_eq] at *); split at hK <;> (try split at hK) <;> omega)
set_option maxHeartbeats 2000000 in
theorem decEnd_0i_sg (s : ByteArray) (K e1 : Nat) (w : World) (hs : s.size ≤ 1099511627776) (hb : sgB ((bs s).drop 0) = false) (has : 0 ≤ s.size) (he1 : 0 + tw ((bs s).drop 0) = e1) (he1s : e1 ≤ s.size) (hd1 : e1 < s.size) (hd2 : ¬ (s[e1].toNat : Int) = 46) (ha1 : 0 ≤ e1) (C : Nat) (hC : e1 - 0 = C) (hx2 : (s[e1].toNat : Int) = 101 ∨ (s[e1].toNat : Int) = 69) (hb2 : sgB ((bs s).drop (e1 + 1)) = true) (L : Nat) (hF : e1 + 1 + 1 ≤ s.size) (hL : e1 + 1 + 1 + tw ((bs s).drop (e1 + 1 + 1)) = L) (hK : (if C = 0 then 0 else if e1 + 1 + 1 < L then L else e1) = K) :
    Calls Tryz.prog 43 #[.string s] w fun e w' => e = .returned (.int .i64 (K : Int)) ∧ w' = w := by
  have HB := Lib.hid hb
  have HE1 := Lib.hid he1
  have HK := Lib.hid hK
  have HC := Lib.hid hC
  have HB2 := Lib.hid hb2
  have HL := Lib.hid hL
  clear hb he1 hK hC hb2 hL
  rcases hx2 with hx2 | hx2
  all_goals
    go_enter Tryz.func43, Tryz.ntmps43
    go_wp2_with (first
      | (go_at_call 72; refine (isSign_to _ _ 0 _ _ (by omega) HB.out hs (by omega)).mono ?_; rintro e w1 ⟨rfl, rfl⟩)
      | (go_at_call 73; refine (digitsEnd_to _ _ 0 e1 _ (by omega) HE1.out hs has).mono ?_; rintro e w1 ⟨rfl, rfl⟩)
      | (go_at_call 72; refine (isSign_to _ _ (e1 + 1) _ _ (by omega) HB2.out hs (by omega)).mono ?_; rintro e w1 ⟨rfl, rfl⟩)
      | (go_at_call 73; refine (digitsEnd_to _ _ (e1 + 1 + 1) L _ (by omega) HL.out hs (by omega)).mono ?_; rintro e w1 ⟨rfl, rfl⟩)
      | go_in)
    all_goals go_ret
    all_goals refine ⟨ret_int ?_, rfl⟩
    all_goals go_light
    all_goals (have hK := HK.out; have hC := HC.out; (try simp only [beq_iff_eq, beq_eq_false_iff_ne, ne_eq] at *); split at hK <;> (try split at hK) <;> omega)
set_option maxHeartbeats 2000000 in
theorem decEnd_0i_un (s : ByteArray) (K e1 : Nat) (w : World) (hs : s.size ≤ 1099511627776) (hb : sgB ((bs s).drop 0) = false) (has : 0 ≤ s.size) (he1 : 0 + tw ((bs s).drop 0) = e1) (he1s : e1 ≤ s.size) (hd1 : e1 < s.size) (hd2 : ¬ (s[e1].toNat : Int) = 46) (ha1 : 0 ≤ e1) (C : Nat) (hC : e1 - 0 = C) (hx2 : (s[e1].toNat : Int) = 101 ∨ (s[e1].toNat : Int) = 69) (hb2 : sgB ((bs s).drop (e1 + 1)) = false) (L : Nat) (hF : e1 + 1 ≤ s.size) (hL : e1 + 1 + tw ((bs s).drop (e1 + 1)) = L) (hK : (if C = 0 then 0 else if e1 + 1 < L then L else e1) = K) :
    Calls Tryz.prog 43 #[.string s] w fun e w' => e = .returned (.int .i64 (K : Int)) ∧ w' = w := by
  have HB := Lib.hid hb
  have HE1 := Lib.hid he1
  have HK := Lib.hid hK
  have HC := Lib.hid hC
  have HB2 := Lib.hid hb2
  have HL := Lib.hid hL
  clear hb he1 hK hC hb2 hL
  rcases hx2 with hx2 | hx2
  all_goals
    go_enter Tryz.func43, Tryz.ntmps43
    go_wp2_with (first
      | (go_at_call 72; refine (isSign_to _ _ 0 _ _ (by omega) HB.out hs (by omega)).mono ?_; rintro e w1 ⟨rfl, rfl⟩)
      | (go_at_call 73; refine (digitsEnd_to _ _ 0 e1 _ (by omega) HE1.out hs has).mono ?_; rintro e w1 ⟨rfl, rfl⟩)
      | (go_at_call 72; refine (isSign_to _ _ (e1 + 1) _ _ (by omega) HB2.out hs (by omega)).mono ?_; rintro e w1 ⟨rfl, rfl⟩)
      | (go_at_call 73; refine (digitsEnd_to _ _ (e1 + 1) L _ (by omega) HL.out hs (by omega)).mono ?_; rintro e w1 ⟨rfl, rfl⟩)
      | go_in)
    all_goals go_ret
    all_goals refine ⟨ret_int ?_, rfl⟩
    all_goals go_light
    all_goals (have hK := HK.out; have hC := HC.out; (try simp only [beq_iff_eq, beq_eq_false_iff_ne, ne_eq] at *); split at hK <;> (try split at hK) <;> omega)
set_option maxHeartbeats 2000000 in
theorem decEnd_1d_end (s : ByteArray) (K e1 e2 : Nat) (w : World) (hs : s.size ≤ 1099511627776) (hb : sgB ((bs s).drop 0) = true) (has : 1 ≤ s.size) (he1 : 1 + tw ((bs s).drop 1) = e1) (he1s : e1 ≤ s.size) (hd1 : e1 < s.size) (hd2 : (s[e1].toNat : Int) = 46) (he2 : e1 + 1 + tw ((bs s).drop (e1 + 1)) = e2) (he2s : e2 ≤ s.size) (h12 : e1 + 1 ≤ e2) (ha1 : 1 ≤ e1) (C : Nat) (hC : (e1 - 1) + (e2 - e1 - 1) = C) (hx1 : ¬ e2 < s.size) (hK : (if C = 0 then 0 else e2) = K) :
    Calls Tryz.prog 43 #[.string s] w fun e w' => e = .returned (.int .i64 (K : Int)) ∧ w' = w := by
  have HB := Lib.hid hb
  have HE1 := Lib.hid he1
  have HK := Lib.hid hK
  have HC := Lib.hid hC
  have HE2 := Lib.hid he2
  clear hb he1 hK hC he2
  go_enter Tryz.func43, Tryz.ntmps43
  go_wp2_with (first
    | (go_at_call 72; refine (isSign_to _ _ 0 _ _ (by omega) HB.out hs (by omega)).mono ?_; rintro e w1 ⟨rfl, rfl⟩)
    | (go_at_call 73; refine (digitsEnd_to _ _ 1 e1 _ (by omega) HE1.out hs has).mono ?_; rintro e w1 ⟨rfl, rfl⟩)
    | (go_at_call 73; refine (digitsEnd_to _ _ (e1 + 1) e2 _ (by omega) HE2.out hs (by omega)).mono ?_; rintro e w1 ⟨rfl, rfl⟩)
    | go_in)
  all_goals go_ret
  all_goals refine ⟨ret_int ?_, rfl⟩
  all_goals go_light
  all_goals (have hK := HK.out; have hC := HC.out; (try simp only [beq_iff_eq, beq_eq_false_iff_ne, ne_eq] at *); split at hK <;> (try split at hK) <;> omega)
set_option maxHeartbeats 2000000 in
theorem decEnd_1d_no (s : ByteArray) (K e1 e2 : Nat) (w : World) (hs : s.size ≤ 1099511627776) (hb : sgB ((bs s).drop 0) = true) (has : 1 ≤ s.size) (he1 : 1 + tw ((bs s).drop 1) = e1) (he1s : e1 ≤ s.size) (hd1 : e1 < s.size) (hd2 : (s[e1].toNat : Int) = 46) (he2 : e1 + 1 + tw ((bs s).drop (e1 + 1)) = e2) (he2s : e2 ≤ s.size) (h12 : e1 + 1 ≤ e2) (ha1 : 1 ≤ e1) (C : Nat) (hC : (e1 - 1) + (e2 - e1 - 1) = C) (hx1 : e2 < s.size) (hx2 : ¬ (s[e2].toNat : Int) = 101) (hx3 : ¬ (s[e2].toNat : Int) = 69) (hK : (if C = 0 then 0 else e2) = K) :
    Calls Tryz.prog 43 #[.string s] w fun e w' => e = .returned (.int .i64 (K : Int)) ∧ w' = w := by
  have HB := Lib.hid hb
  have HE1 := Lib.hid he1
  have HK := Lib.hid hK
  have HC := Lib.hid hC
  have HE2 := Lib.hid he2
  clear hb he1 hK hC he2
  have hy2 : ((s[e2].toNat : Int) == 101) = false := beq_eq_false_iff_ne.2 hx2
  have hy3 : ((s[e2].toNat : Int) == 69) = false := beq_eq_false_iff_ne.2 hx3
  go_enter Tryz.func43, Tryz.ntmps43
  go_wp2_with (first
    | (go_at_call 72; refine (isSign_to _ _ 0 _ _ (by omega) HB.out hs (by omega)).mono ?_; rintro e w1 ⟨rfl, rfl⟩)
    | (go_at_call 73; refine (digitsEnd_to _ _ 1 e1 _ (by omega) HE1.out hs has).mono ?_; rintro e w1 ⟨rfl, rfl⟩)
    | (go_at_call 73; refine (digitsEnd_to _ _ (e1 + 1) e2 _ (by omega) HE2.out hs (by omega)).mono ?_; rintro e w1 ⟨rfl, rfl⟩)
    | go_in)
  all_goals go_ret
  all_goals refine ⟨ret_int ?_, rfl⟩
  all_goals go_light
  all_goals (have hK := HK.out; have hC := HC.out; (try simp only [beq_iff_eq, beq_eq_false_iff_ne, ne_eq] at *); split at hK <;> (try split at hK) <;> omega)
set_option maxHeartbeats 2000000 in
theorem decEnd_1d_sg (s : ByteArray) (K e1 e2 : Nat) (w : World) (hs : s.size ≤ 1099511627776) (hb : sgB ((bs s).drop 0) = true) (has : 1 ≤ s.size) (he1 : 1 + tw ((bs s).drop 1) = e1) (he1s : e1 ≤ s.size) (hd1 : e1 < s.size) (hd2 : (s[e1].toNat : Int) = 46) (he2 : e1 + 1 + tw ((bs s).drop (e1 + 1)) = e2) (he2s : e2 ≤ s.size) (h12 : e1 + 1 ≤ e2) (ha1 : 1 ≤ e1) (C : Nat) (hC : (e1 - 1) + (e2 - e1 - 1) = C) (hx1 : e2 < s.size) (hx2 : (s[e2].toNat : Int) = 101 ∨ (s[e2].toNat : Int) = 69) (hb2 : sgB ((bs s).drop (e2 + 1)) = true) (L : Nat) (hF : e2 + 1 + 1 ≤ s.size) (hL : e2 + 1 + 1 + tw ((bs s).drop (e2 + 1 + 1)) = L) (hK : (if C = 0 then 0 else if e2 + 1 + 1 < L then L else e2) = K) :
    Calls Tryz.prog 43 #[.string s] w fun e w' => e = .returned (.int .i64 (K : Int)) ∧ w' = w := by
  have HB := Lib.hid hb
  have HE1 := Lib.hid he1
  have HK := Lib.hid hK
  have HC := Lib.hid hC
  have HE2 := Lib.hid he2
  have HB2 := Lib.hid hb2
  have HL := Lib.hid hL
  clear hb he1 hK hC he2 hb2 hL
  rcases hx2 with hx2 | hx2
  all_goals
    go_enter Tryz.func43, Tryz.ntmps43
    go_wp2_with (first
      | (go_at_call 72; refine (isSign_to _ _ 0 _ _ (by omega) HB.out hs (by omega)).mono ?_; rintro e w1 ⟨rfl, rfl⟩)
      | (go_at_call 73; refine (digitsEnd_to _ _ 1 e1 _ (by omega) HE1.out hs has).mono ?_; rintro e w1 ⟨rfl, rfl⟩)
      | (go_at_call 73; refine (digitsEnd_to _ _ (e1 + 1) e2 _ (by omega) HE2.out hs (by omega)).mono ?_; rintro e w1 ⟨rfl, rfl⟩)
      | (go_at_call 72; refine (isSign_to _ _ (e2 + 1) _ _ (by omega) HB2.out hs (by omega)).mono ?_; rintro e w1 ⟨rfl, rfl⟩)
      | (go_at_call 73; refine (digitsEnd_to _ _ (e2 + 1 + 1) L _ (by omega) HL.out hs (by omega)).mono ?_; rintro e w1 ⟨rfl, rfl⟩)
      | go_in)
    all_goals go_ret
    all_goals refine ⟨ret_int ?_, rfl⟩
    all_goals go_light
    all_goals (have hK := HK.out; have hC := HC.out; (try simp only [beq_iff_eq, beq_eq_false_iff_ne, ne_eq] at *); split at hK <;> (try split at hK) <;> omega)
set_option maxHeartbeats 2000000 in
theorem decEnd_1d_un (s : ByteArray) (K e1 e2 : Nat) (w : World) (hs : s.size ≤ 1099511627776) (hb : sgB ((bs s).drop 0) = true) (has : 1 ≤ s.size) (he1 : 1 + tw ((bs s).drop 1) = e1) (he1s : e1 ≤ s.size) (hd1 : e1 < s.size) (hd2 : (s[e1].toNat : Int) = 46) (he2 : e1 + 1 + tw ((bs s).drop (e1 + 1)) = e2) (he2s : e2 ≤ s.size) (h12 : e1 + 1 ≤ e2) (ha1 : 1 ≤ e1) (C : Nat) (hC : (e1 - 1) + (e2 - e1 - 1) = C) (hx1 : e2 < s.size) (hx2 : (s[e2].toNat : Int) = 101 ∨ (s[e2].toNat : Int) = 69) (hb2 : sgB ((bs s).drop (e2 + 1)) = false) (L : Nat) (hF : e2 + 1 ≤ s.size) (hL : e2 + 1 + tw ((bs s).drop (e2 + 1)) = L) (hK : (if C = 0 then 0 else if e2 + 1 < L then L else e2) = K) :
    Calls Tryz.prog 43 #[.string s] w fun e w' => e = .returned (.int .i64 (K : Int)) ∧ w' = w := by
  have HB := Lib.hid hb
  have HE1 := Lib.hid he1
  have HK := Lib.hid hK
  have HC := Lib.hid hC
  have HE2 := Lib.hid he2
  have HB2 := Lib.hid hb2
  have HL := Lib.hid hL
  clear hb he1 hK hC he2 hb2 hL
  rcases hx2 with hx2 | hx2
  all_goals
    go_enter Tryz.func43, Tryz.ntmps43
    go_wp2_with (first
      | (go_at_call 72; refine (isSign_to _ _ 0 _ _ (by omega) HB.out hs (by omega)).mono ?_; rintro e w1 ⟨rfl, rfl⟩)
      | (go_at_call 73; refine (digitsEnd_to _ _ 1 e1 _ (by omega) HE1.out hs has).mono ?_; rintro e w1 ⟨rfl, rfl⟩)
      | (go_at_call 73; refine (digitsEnd_to _ _ (e1 + 1) e2 _ (by omega) HE2.out hs (by omega)).mono ?_; rintro e w1 ⟨rfl, rfl⟩)
      | (go_at_call 72; refine (isSign_to _ _ (e2 + 1) _ _ (by omega) HB2.out hs (by omega)).mono ?_; rintro e w1 ⟨rfl, rfl⟩)
      | (go_at_call 73; refine (digitsEnd_to _ _ (e2 + 1) L _ (by omega) HL.out hs (by omega)).mono ?_; rintro e w1 ⟨rfl, rfl⟩)
      | go_in)
    all_goals go_ret
    all_goals refine ⟨ret_int ?_, rfl⟩
    all_goals go_light
    all_goals (have hK := HK.out; have hC := HC.out; (try simp only [beq_iff_eq, beq_eq_false_iff_ne, ne_eq] at *); split at hK <;> (try split at hK) <;> omega)
set_option maxHeartbeats 2000000 in
theorem decEnd_1e_end (s : ByteArray) (K e1 : Nat) (w : World) (hs : s.size ≤ 1099511627776) (hb : sgB ((bs s).drop 0) = true) (has : 1 ≤ s.size) (he1 : 1 + tw ((bs s).drop 1) = e1) (he1s : e1 ≤ s.size) (hd1 : ¬ e1 < s.size) (ha1 : 1 ≤ e1) (C : Nat) (hC : e1 - 1 = C) (hK : (if C = 0 then 0 else e1) = K) :
    Calls Tryz.prog 43 #[.string s] w fun e w' => e = .returned (.int .i64 (K : Int)) ∧ w' = w := by
  have HB := Lib.hid hb
  have HE1 := Lib.hid he1
  have HK := Lib.hid hK
  have HC := Lib.hid hC
  clear hb he1 hK hC
  go_enter Tryz.func43, Tryz.ntmps43
  go_wp2_with (first
    | (go_at_call 72; refine (isSign_to _ _ 0 _ _ (by omega) HB.out hs (by omega)).mono ?_; rintro e w1 ⟨rfl, rfl⟩)
    | (go_at_call 73; refine (digitsEnd_to _ _ 1 e1 _ (by omega) HE1.out hs has).mono ?_; rintro e w1 ⟨rfl, rfl⟩)
    | go_in)
  all_goals go_ret
  all_goals refine ⟨ret_int ?_, rfl⟩
  all_goals go_light
  all_goals (have hK := HK.out; have hC := HC.out; (try simp only [beq_iff_eq, beq_eq_false_iff_ne, ne_eq] at *); split at hK <;> (try split at hK) <;> omega)
set_option maxHeartbeats 2000000 in
theorem decEnd_1i_no (s : ByteArray) (K e1 : Nat) (w : World) (hs : s.size ≤ 1099511627776) (hb : sgB ((bs s).drop 0) = true) (has : 1 ≤ s.size) (he1 : 1 + tw ((bs s).drop 1) = e1) (he1s : e1 ≤ s.size) (hd1 : e1 < s.size) (hd2 : ¬ (s[e1].toNat : Int) = 46) (ha1 : 1 ≤ e1) (C : Nat) (hC : e1 - 1 = C) (hx2 : ¬ (s[e1].toNat : Int) = 101) (hx3 : ¬ (s[e1].toNat : Int) = 69) (hK : (if C = 0 then 0 else e1) = K) :
    Calls Tryz.prog 43 #[.string s] w fun e w' => e = .returned (.int .i64 (K : Int)) ∧ w' = w := by
  have HB := Lib.hid hb
  have HE1 := Lib.hid he1
  have HK := Lib.hid hK
  have HC := Lib.hid hC
  clear hb he1 hK hC
  have hy2 : ((s[e1].toNat : Int) == 101) = false := beq_eq_false_iff_ne.2 hx2
  have hy3 : ((s[e1].toNat : Int) == 69) = false := beq_eq_false_iff_ne.2 hx3
  go_enter Tryz.func43, Tryz.ntmps43
  go_wp2_with (first
    | (go_at_call 72; refine (isSign_to _ _ 0 _ _ (by omega) HB.out hs (by omega)).mono ?_; rintro e w1 ⟨rfl, rfl⟩)
    | (go_at_call 73; refine (digitsEnd_to _ _ 1 e1 _ (by omega) HE1.out hs has).mono ?_; rintro e w1 ⟨rfl, rfl⟩)
    | go_in)
  all_goals go_ret
  all_goals refine ⟨ret_int ?_, rfl⟩
  all_goals go_light
  all_goals (have hK := HK.out; have hC := HC.out; (try simp only [beq_iff_eq, beq_eq_false_iff_ne, ne_eq] at *); split at hK <;> (try split at hK) <;> omega)
set_option maxHeartbeats 2000000 in
theorem decEnd_1i_sg (s : ByteArray) (K e1 : Nat) (w : World) (hs : s.size ≤ 1099511627776) (hb : sgB ((bs s).drop 0) = true) (has : 1 ≤ s.size) (he1 : 1 + tw ((bs s).drop 1) = e1) (he1s : e1 ≤ s.size) (hd1 : e1 < s.size) (hd2 : ¬ (s[e1].toNat : Int) = 46) (ha1 : 1 ≤ e1) (C : Nat) (hC : e1 - 1 = C) (hx2 : (s[e1].toNat : Int) = 101 ∨ (s[e1].toNat : Int) = 69) (hb2 : sgB ((bs s).drop (e1 + 1)) = true) (L : Nat) (hF : e1 + 1 + 1 ≤ s.size) (hL : e1 + 1 + 1 + tw ((bs s).drop (e1 + 1 + 1)) = L) (hK : (if C = 0 then 0 else if e1 + 1 + 1 < L then L else e1) = K) :
    Calls Tryz.prog 43 #[.string s] w fun e w' => e = .returned (.int .i64 (K : Int)) ∧ w' = w := by
  have HB := Lib.hid hb
  have HE1 := Lib.hid he1
  have HK := Lib.hid hK
  have HC := Lib.hid hC
  have HB2 := Lib.hid hb2
  have HL := Lib.hid hL
  clear hb he1 hK hC hb2 hL
  rcases hx2 with hx2 | hx2
  all_goals
    go_enter Tryz.func43, Tryz.ntmps43
    go_wp2_with (first
      | (go_at_call 72; refine (isSign_to _ _ 0 _ _ (by omega) HB.out hs (by omega)).mono ?_; rintro e w1 ⟨rfl, rfl⟩)
      | (go_at_call 73; refine (digitsEnd_to _ _ 1 e1 _ (by omega) HE1.out hs has).mono ?_; rintro e w1 ⟨rfl, rfl⟩)
      | (go_at_call 72; refine (isSign_to _ _ (e1 + 1) _ _ (by omega) HB2.out hs (by omega)).mono ?_; rintro e w1 ⟨rfl, rfl⟩)
      | (go_at_call 73; refine (digitsEnd_to _ _ (e1 + 1 + 1) L _ (by omega) HL.out hs (by omega)).mono ?_; rintro e w1 ⟨rfl, rfl⟩)
      | go_in)
    all_goals go_ret
    all_goals refine ⟨ret_int ?_, rfl⟩
    all_goals go_light
    all_goals (have hK := HK.out; have hC := HC.out; (try simp only [beq_iff_eq, beq_eq_false_iff_ne, ne_eq] at *); split at hK <;> (try split at hK) <;> omega)
set_option maxHeartbeats 2000000 in
theorem decEnd_1i_un (s : ByteArray) (K e1 : Nat) (w : World) (hs : s.size ≤ 1099511627776) (hb : sgB ((bs s).drop 0) = true) (has : 1 ≤ s.size) (he1 : 1 + tw ((bs s).drop 1) = e1) (he1s : e1 ≤ s.size) (hd1 : e1 < s.size) (hd2 : ¬ (s[e1].toNat : Int) = 46) (ha1 : 1 ≤ e1) (C : Nat) (hC : e1 - 1 = C) (hx2 : (s[e1].toNat : Int) = 101 ∨ (s[e1].toNat : Int) = 69) (hb2 : sgB ((bs s).drop (e1 + 1)) = false) (L : Nat) (hF : e1 + 1 ≤ s.size) (hL : e1 + 1 + tw ((bs s).drop (e1 + 1)) = L) (hK : (if C = 0 then 0 else if e1 + 1 < L then L else e1) = K) :
    Calls Tryz.prog 43 #[.string s] w fun e w' => e = .returned (.int .i64 (K : Int)) ∧ w' = w := by
  have HB := Lib.hid hb
  have HE1 := Lib.hid he1
  have HK := Lib.hid hK
  have HC := Lib.hid hC
  have HB2 := Lib.hid hb2
  have HL := Lib.hid hL
  clear hb he1 hK hC hb2 hL
  rcases hx2 with hx2 | hx2
  all_goals
    go_enter Tryz.func43, Tryz.ntmps43
    go_wp2_with (first
      | (go_at_call 72; refine (isSign_to _ _ 0 _ _ (by omega) HB.out hs (by omega)).mono ?_; rintro e w1 ⟨rfl, rfl⟩)
      | (go_at_call 73; refine (digitsEnd_to _ _ 1 e1 _ (by omega) HE1.out hs has).mono ?_; rintro e w1 ⟨rfl, rfl⟩)
      | (go_at_call 72; refine (isSign_to _ _ (e1 + 1) _ _ (by omega) HB2.out hs (by omega)).mono ?_; rintro e w1 ⟨rfl, rfl⟩)
      | (go_at_call 73; refine (digitsEnd_to _ _ (e1 + 1) L _ (by omega) HL.out hs (by omega)).mono ?_; rintro e w1 ⟨rfl, rfl⟩)
      | go_in)
    all_goals go_ret
    all_goals refine ⟨ret_int ?_, rfl⟩
    all_goals go_light
    all_goals (have hK := HK.out; have hC := HC.out; (try simp only [beq_iff_eq, beq_eq_false_iff_ne, ne_eq] at *); split at hK <;> (try split at hK) <;> omega)

theorem decEnd_any (s : ByteArray) (w : World) (hs : s.size ≤ 1099511627776) :
    Calls Tryz.prog 43 #[.string s] w fun e w' => e = .returned (.int .i64 (scanN (bs s) : Nat)) ∧ w' = w := by
  obtain ⟨K, hK⟩ : ∃ K, scanN (bs s) = K := ⟨_, rfl⟩
  rw [hK]
  obtain ⟨b, hb⟩ : ∃ b, sgB ((bs s).drop 0) = b := ⟨_, rfl⟩
  obtain ⟨a, ha⟩ : ∃ a : Nat, sgN (bs s) = a := ⟨_, rfl⟩
  have has : a ≤ s.size := by rw [← ha, ← bs_length]; exact (sgN_le _).2
  unfold scanN at hK
  rw [ha] at hK
  obtain ⟨e1, he1⟩ : ∃ e1, a + tw ((bs s).drop a) = e1 := ⟨_, rfl⟩
  have he1s : e1 ≤ s.size := by rw [← he1]; exact tw_end has
  have ha1 : a ≤ e1 := by omega
  have hab : a = if b then 1 else 0 := by rw [← ha]; exact sgN_of hb
  by_cases hd1 : e1 < s.size
  · by_cases hd2 : (s[e1].toNat : Int) = 46
    · obtain ⟨e2, he2⟩ : ∃ e2, e1 + 1 + tw ((bs s).drop (e1 + 1)) = e2 := ⟨_, rfl⟩
      have he2s : e2 ≤ s.size := by rw [← he2]; exact tw_end hd1
      rw [body_dot he1 hd1 hd2 he2] at hK
      simp only at hK
      rw [show a + (e2 - a) = e2 by omega] at hK
      have h12 : e1 + 1 ≤ e2 := by omega
      rcases scan_tail e2 _ he2s hK with ⟨hx, hK'⟩ | ⟨h1, h2, h3, hK'⟩ | ⟨b2, F, L, h1, h2, h3, h4, h5, h6, hK'⟩
      · cases b with
        | false =>
          obtain rfl : a = 0 := hab
          exact decEnd_0d_end s K e1 e2 w hs hb has he1 he1s hd1 hd2 he2 he2s h12 ha1 _ rfl hx hK'
        | true =>
          obtain rfl : a = 1 := hab
          exact decEnd_1d_end s K e1 e2 w hs hb has he1 he1s hd1 hd2 he2 he2s h12 ha1 _ rfl hx hK'
      · cases b with
        | false =>
          obtain rfl : a = 0 := hab
          exact decEnd_0d_no s K e1 e2 w hs hb has he1 he1s hd1 hd2 he2 he2s h12 ha1 _ rfl h1 h2 h3 hK'
        | true =>
          obtain rfl : a = 1 := hab
          exact decEnd_1d_no s K e1 e2 w hs hb has he1 he1s hd1 hd2 he2 he2s h12 ha1 _ rfl h1 h2 h3 hK'
      · cases b with
        | false =>
          obtain rfl : a = 0 := hab
          cases b2 with
          | false =>
            obtain rfl : F = e2 + 1 := h4
            exact decEnd_0d_un s K e1 e2 w hs hb has he1 he1s hd1 hd2 he2 he2s h12 ha1 _ rfl h1 h2 h3 L h5 h6 hK'
          | true =>
            obtain rfl : F = e2 + 1 + 1 := h4
            exact decEnd_0d_sg s K e1 e2 w hs hb has he1 he1s hd1 hd2 he2 he2s h12 ha1 _ rfl h1 h2 h3 L h5 h6 hK'
        | true =>
          obtain rfl : a = 1 := hab
          cases b2 with
          | false =>
            obtain rfl : F = e2 + 1 := h4
            exact decEnd_1d_un s K e1 e2 w hs hb has he1 he1s hd1 hd2 he2 he2s h12 ha1 _ rfl h1 h2 h3 L h5 h6 hK'
          | true =>
            obtain rfl : F = e2 + 1 + 1 := h4
            exact decEnd_1d_sg s K e1 e2 w hs hb has he1 he1s hd1 hd2 he2 he2s h12 ha1 _ rfl h1 h2 h3 L h5 h6 hK'
    · rw [body_nodot he1 (fun _ _ => hd2)] at hK
      simp only at hK
      rw [show a + (e1 - a) = e1 by omega] at hK
      rcases scan_tail e1 _ he1s hK with ⟨hx, hK'⟩ | ⟨h1, h2, h3, hK'⟩ | ⟨b2, F, L, h1, h2, h3, h4, h5, h6, hK'⟩
      · exact absurd hd1 hx
      · cases b with
        | false =>
          obtain rfl : a = 0 := hab
          exact decEnd_0i_no s K e1 w hs hb has he1 he1s hd1 hd2 ha1 _ rfl h2 h3 hK'
        | true =>
          obtain rfl : a = 1 := hab
          exact decEnd_1i_no s K e1 w hs hb has he1 he1s hd1 hd2 ha1 _ rfl h2 h3 hK'
      · cases b with
        | false =>
          obtain rfl : a = 0 := hab
          cases b2 with
          | false =>
            obtain rfl : F = e1 + 1 := h4
            exact decEnd_0i_un s K e1 w hs hb has he1 he1s hd1 hd2 ha1 _ rfl h2 h3 L h5 h6 hK'
          | true =>
            obtain rfl : F = e1 + 1 + 1 := h4
            exact decEnd_0i_sg s K e1 w hs hb has he1 he1s hd1 hd2 ha1 _ rfl h2 h3 L h5 h6 hK'
        | true =>
          obtain rfl : a = 1 := hab
          cases b2 with
          | false =>
            obtain rfl : F = e1 + 1 := h4
            exact decEnd_1i_un s K e1 w hs hb has he1 he1s hd1 hd2 ha1 _ rfl h2 h3 L h5 h6 hK'
          | true =>
            obtain rfl : F = e1 + 1 + 1 := h4
            exact decEnd_1i_sg s K e1 w hs hb has he1 he1s hd1 hd2 ha1 _ rfl h2 h3 L h5 h6 hK'
  · rw [body_nodot he1 (fun h => absurd h hd1)] at hK
    simp only at hK
    rw [show a + (e1 - a) = e1 by omega] at hK
    rcases scan_tail e1 _ he1s hK with ⟨hx, hK'⟩ | ⟨h1, -⟩ | ⟨b2, F, L, h1, -⟩
    · cases b with
      | false =>
        obtain rfl : a = 0 := hab
        exact decEnd_0e_end s K e1 w hs hb has he1 he1s hd1 ha1 _ rfl hK'
      | true =>
        obtain rfl : a = 1 := hab
        exact decEnd_1e_end s K e1 w hs hb has he1 he1s hd1 ha1 _ rfl hK'
    · exact absurd h1 hd1
    · exact absurd h1 hd1
end Go.Proofs.YtjjpdoabagnmoaaGreatDoor

/-
  What an automaton does, in plain words: where it comes without reading, where it stands, what both searches leave. No program here. No condition.
-/
import Derived.Lib.Hide
namespace Go.Proofs.YtobpecgecopdnaaDoor
set_option linter.unusedVariables false

/-- how many of the first n are not marked -/
def unm : Nat → (Nat → Bool) → Nat
  | 0, _ => 0
  | n + 1, M => unm n M + if M n then 0 else 1
/-- one more is marked -/
def mkd (M : Nat → Bool) (j : Nat) : Nat → Bool := fun i => if i = j then true else M i
theorem mkd_self (M : Nat → Bool) (j : Nat) : mkd M j j = true := by simp [mkd]
theorem mkd_other {M : Nat → Bool} {j i : Nat} (h : i ≠ j) : mkd M j i = M i := by simp [mkd, h]
theorem mkd_iff {M : Nat → Bool} {j i : Nat} : mkd M j i = true ↔ i = j ∨ M i = true := by
  by_cases h : i = j
  · simp [mkd, h]
  · simp [mkd, h]
theorem unm_le (n : Nat) (M : Nat → Bool) : unm n M ≤ n := by
  induction n with
  | zero => exact Nat.le_refl _
  | succ n ih => unfold unm; split <;> omega
theorem unm_high {n j : Nat} (M : Nat → Bool) (h : n ≤ j) : unm n (mkd M j) = unm n M := by
  induction n with
  | zero => rfl
  | succ n ih => unfold unm; rw [ih (by omega), mkd_other (by omega)]
theorem unm_set {n j : Nat} {M : Nat → Bool} (hj : j < n) (hm : M j = false) : unm n (mkd M j) + 1 = unm n M := by
  induction n with
  | zero => omega
  | succ n ih =>
    unfold unm
    by_cases e : j = n
    · subst e
      rw [unm_high M (Nat.le_refl _), mkd_self, hm]
      simp
    · rw [mkd_other (by omega)]
      have := ih (by omega)
      omega
theorem unm_pos {n j : Nat} {M : Nat → Bool} (hj : j < n) (hm : M j = false) : 1 ≤ unm n M := by
  have := unm_set hj hm
  omega

/-- where one comes without reading, at a place: suc p i lists the next ones -/
inductive Rch (suc : Nat → Nat → List Nat) (p : Nat) (i : Nat) : Nat → Prop
  | refl : Rch suc p i i
  | tail {j k : Nat} : Rch suc p i j → k ∈ suc p j → Rch suc p i k
theorem Rch.closed {suc : Nat → Nat → List Nat} {p i k : Nat} {M : Nat → Bool} (hc : ∀ j, M j = true → ∀ k ∈ suc p j, M k = true) (hi : M i = true) (h : Rch suc p i k) : M k = true := by
  induction h with
  | refl => exact hi
  | tail _ h2 ih => exact hc _ ih _ h2

/-- a closing under way: M0 was marked, M is, st is still to be looked at, from i on -/
structure Clos (suc : Nat → Nat → List Nat) (p : Nat) (M0 M : Nat → Bool) (st : List Nat) (i : Nat) : Prop where
  old : ∀ j, M0 j = true → M j = true
  sound : ∀ j, M j = true → M0 j = true ∨ Rch suc p i j
  stk : ∀ j ∈ st, Rch suc p i j
  clos : ∀ j, M j = true → ∀ k ∈ suc p j, M k = true ∨ k ∈ st
  head : M i = true ∨ i ∈ st
theorem Clos.start {suc : Nat → Nat → List Nat} {p : Nat} {M : Nat → Bool} {i : Nat} (hc : ∀ j, M j = true → ∀ k ∈ suc p j, M k = true) : Clos suc p M M [i] i :=
  ⟨fun _ h => h, fun _ h => .inl h, fun j h => by simp at h; subst h; exact .refl, fun j h k hk => .inl (hc j h k hk), .inr (by simp)⟩
theorem Clos.skip {suc : Nat → Nat → List Nat} {p : Nat} {M0 M : Nat → Bool} {st : List Nat} {i j : Nat} (h : Clos suc p M0 M (st ++ [j]) i) (hj : M j = true) : Clos suc p M0 M st i :=
  ⟨h.old, h.sound, fun k hk => h.stk k (by simp [hk]), fun a ha k hk => by
    rcases h.clos a ha k hk with h1 | h1
    · exact .inl h1
    · rcases List.mem_append.1 h1 with h2 | h2
      · exact .inr h2
      · simp at h2; subst h2; exact .inl hj, by
    rcases h.head with h1 | h1
    · exact .inl h1
    · rcases List.mem_append.1 h1 with h2 | h2
      · exact .inr h2
      · simp at h2; subst h2; exact .inl hj⟩
theorem Clos.take {suc : Nat → Nat → List Nat} {p : Nat} {M0 M : Nat → Bool} {st st' : List Nat} {i j : Nat} (h : Clos suc p M0 M (st ++ [j]) i) (hs : ∀ k, k ∈ st' ↔ k ∈ st ∨ k ∈ suc p j) : Clos suc p M0 (mkd M j) st' i := by
  have hR : Rch suc p i j := h.stk j (by simp)
  refine ⟨fun a ha => mkd_iff.2 (.inr (h.old a ha)), fun a ha => ?_, fun k hk => ?_, fun a ha k hk => ?_, ?_⟩
  · rcases mkd_iff.1 ha with rfl | h1
    · exact .inr hR
    · exact h.sound a h1
  · rcases (hs k).1 hk with h1 | h1
    · exact h.stk k (by simp [h1])
    · exact .tail hR h1
  · rcases mkd_iff.1 ha with rfl | h1
    · exact .inr ((hs k).2 (.inr hk))
    · rcases h.clos a h1 k hk with h2 | h2
      · exact .inl (mkd_iff.2 (.inr h2))
      · rcases List.mem_append.1 h2 with h3 | h3
        · exact .inr ((hs k).2 (.inl h3))
        · simp at h3; subst h3; exact .inl (mkd_self _ _)
  · rcases h.head with h1 | h1
    · exact .inl (mkd_iff.2 (.inr h1))
    · rcases List.mem_append.1 h1 with h3 | h3
      · exact .inr ((hs i).2 (.inl h3))
      · simp at h3; subst h3; exact .inl (mkd_self _ _)
theorem Clos.done {suc : Nat → Nat → List Nat} {p : Nat} {M0 M : Nat → Bool} {i : Nat} (h : Clos suc p M0 M [] i) :
    (∀ j, M j = true ↔ M0 j = true ∨ Rch suc p i j) ∧ ∀ j, M j = true → ∀ k ∈ suc p j, M k = true := by
  have hc : ∀ j, M j = true → ∀ k ∈ suc p j, M k = true := fun j hj k hk => by
    rcases h.clos j hj k hk with h1 | h1
    · exact h1
    · simp at h1
  have hi : M i = true := by
    rcases h.head with h1 | h1
    · exact h1
    · simp at h1
  exact ⟨fun j => ⟨h.sound j, fun h1 => by
    rcases h1 with h1 | h1
    · exact h.old j h1
    · exact h1.closed hc hi⟩, hc⟩

/-- where the automaton stands at a place, when it began at f: L is the text's length, tk p i tells whether i reads what is at p -/
inductive At (L : Nat) (suc : Nat → Nat → List Nat) (tk : Nat → Nat → Bool) (f : Nat) : Nat → Nat → Prop
  | start : f ≤ L → At L suc tk f f 0
  | eps {p i j : Nat} : At L suc tk f p i → j ∈ suc p i → At L suc tk f p j
  | read {p i : Nat} : At L suc tk f p i → p < L → tk p i = true → At L suc tk f (p + 1) (i + 1)
/-- .. ahead of any step without reading -/
def Pre (L : Nat) (suc : Nat → Nat → List Nat) (tk : Nat → Nat → Bool) (f p i : Nat) : Prop :=
  (p = f ∧ i = 0 ∧ f ≤ L) ∨ ∃ q j, p = q + 1 ∧ i = j + 1 ∧ At L suc tk f q j ∧ q < L ∧ tk q j = true
section
variable {L : Nat} {suc : Nat → Nat → List Nat} {tk : Nat → Nat → Bool}
theorem at_pre {f p j : Nat} : At L suc tk f p j ↔ ∃ i, Pre L suc tk f p i ∧ Rch suc p i j := by
  constructor
  · intro h
    induction h with
    | start h => exact ⟨0, .inl ⟨rfl, rfl, h⟩, .refl⟩
    | eps _ h2 ih => obtain ⟨i, h3, h4⟩ := ih; exact ⟨i, h3, .tail h4 h2⟩
    | read h1 h2 h3 _ => exact ⟨_, .inr ⟨_, _, rfl, rfl, h1, h2, h3⟩, .refl⟩
  · rintro ⟨i, h1, h2⟩
    have h0 : At L suc tk f p i := by
      rcases h1 with ⟨rfl, rfl, h⟩ | ⟨q, j, rfl, rfl, h3, h4, h5⟩
      · exact .start h
      · exact .read h3 h4 h5
    induction h2 with
    | refl => exact h0
    | tail _ h3 ih => exact .eps ih h3
theorem At.lo {f p j : Nat} (h : At L suc tk f p j) : f ≤ p ∧ p ≤ L := by
  induction h with
  | start h => exact ⟨Nat.le_refl _, h⟩
  | eps _ _ ih => exact ih
  | read _ h2 _ ih => omega
theorem Pre.lo {f p i : Nat} (h : Pre L suc tk f p i) : f ≤ p ∧ p ≤ L := (at_pre.2 ⟨i, h, .refl⟩).lo
theorem pre_self {p i : Nat} (h : Pre L suc tk p p i) : i = 0 := by
  rcases h with ⟨_, h, _⟩ | ⟨q, j, h1, _, h3, _⟩
  · exact h
  · have := h3.lo; omega
/-- where nothing is left, nothing comes later -/
theorem at_none {f p : Nat} (hf : f ≤ p) (h : ∀ i, ¬ Pre L suc tk f p i) : ∀ p' j, p ≤ p' → ¬ At L suc tk f p' j := by
  intro p' j hp hA
  have key : ∀ p' j, At L suc tk f p' j → p ≤ p' → False := by
    intro p' j hA
    induction hA with
    | start h1 => intro hp; exact h 0 (.inl ⟨by omega, rfl, h1⟩)
    | eps _ _ ih => exact ih
    | @read q i h1 h2 h3 ih =>
      intro hp
      by_cases e : p ≤ q
      · exact ih e
      · obtain rfl : p = q + 1 := by omega
        exact h _ (.inr ⟨q, i, rfl, rfl, h1, h2, h3⟩)
  exact key p' j hA hp

/-- what both searches leave: the least place from which it fits, and the greatest one at which it then does -/
def FindP (L : Nat) (suc : Nat → Nat → List Nat) (tk : Nat → Nat → Bool) (fit fr : Nat) (x y : Int) : Prop :=
  (x = -1 ∧ y = -1 ∧ ∀ f p, fr ≤ f → ¬ At L suc tk f p fit) ∨
  ∃ a b : Nat, x = a ∧ y = b ∧ fr ≤ a ∧ At L suc tk a b fit ∧ (∀ p, At L suc tk a p fit → p ≤ b) ∧ ∀ f p, fr ≤ f → f < a → ¬ At L suc tk f p fit
theorem FindP.same {fit fr : Nat} {x y x' y' : Int} (h : FindP L suc tk fit fr x y) (h' : FindP L suc tk fit fr x' y') : x = x' ∧ y = y' := by
  rcases h with ⟨rfl, rfl, h1⟩ | ⟨a, b, rfl, rfl, h1, h2, h3, h4⟩
  · rcases h' with ⟨rfl, rfl, _⟩ | ⟨a', b', rfl, rfl, k1, k2, _, _⟩
    · exact ⟨rfl, rfl⟩
    · exact absurd k2 (h1 _ _ k1)
  · rcases h' with ⟨rfl, rfl, k1⟩ | ⟨a', b', rfl, rfl, k1, k2, k3, k4⟩
    · exact absurd h2 (k1 _ _ h1)
    · have e : a = a' := by
        rcases Nat.lt_trichotomy a a' with h | h | h
        · exact absurd h2 (k4 _ _ h1 h)
        · exact h
        · exact absurd k2 (h4 _ _ k1 h)
      subst e
      have h5 := k3 _ h2
      have h6 := h3 _ k2
      exact ⟨rfl, by omega⟩
/-- the greatest place at which it fits, when it begins at one -/
def GoP (L : Nat) (suc : Nat → Nat → List Nat) (tk : Nat → Nat → Bool) (fit f : Nat) (x : Int) : Prop :=
  (x = -1 ∧ ∀ p, ¬ At L suc tk f p fit) ∨ ∃ b : Nat, x = b ∧ At L suc tk f b fit ∧ ∀ p, At L suc tk f p fit → p ≤ b
/-- .. of the places ahead of p -/
def GoUp (L : Nat) (suc : Nat → Nat → List Nat) (tk : Nat → Nat → Bool) (fit f p : Nat) (x : Int) : Prop :=
  (x = -1 ∧ ∀ q, q < p → ¬ At L suc tk f q fit) ∨ ∃ b : Nat, x = b ∧ b < p ∧ At L suc tk f b fit ∧ ∀ q, q < p → At L suc tk f q fit → q ≤ b
theorem goUp_start {fit f : Nat} : GoUp L suc tk fit f f (-1) := .inl ⟨rfl, fun q h h1 => by have := h1.lo; omega⟩
theorem GoUp.hit {fit f p : Nat} {x : Int} (h : At L suc tk f p fit) : GoUp L suc tk fit f (p + 1) p := .inr ⟨p, rfl, by omega, h, fun q hq _ => by omega⟩
theorem GoUp.miss {fit f p : Nat} {x : Int} (h : GoUp L suc tk fit f p x) (hn : ¬ At L suc tk f p fit) : GoUp L suc tk fit f (p + 1) x := by
  rcases h with ⟨rfl, h1⟩ | ⟨b, rfl, h1, h2, h3⟩
  · refine .inl ⟨rfl, fun q hq h4 => ?_⟩
    by_cases e : q = p
    · subst e; exact hn h4
    · exact h1 q (by omega) h4
  · refine .inr ⟨b, rfl, by omega, h2, fun q hq h4 => ?_⟩
    by_cases e : q = p
    · subst e; exact absurd h4 hn
    · exact h3 q (by omega) h4
theorem GoUp.all {fit f p : Nat} {x : Int} (h : GoUp L suc tk fit f p x) (hn : ∀ q, p ≤ q → ¬ At L suc tk f q fit) : GoP L suc tk fit f x := by
  have key : ∀ q, At L suc tk f q fit → q < p := fun q hq => by
    rcases Nat.lt_or_ge q p with h | h
    · exact h
    · exact absurd hq (hn q h)
  rcases h with ⟨rfl, h1⟩ | ⟨b, rfl, h1, h2, h3⟩
  · exact .inl ⟨rfl, fun q hq => h1 q (key q hq) hq⟩
  · exact .inr ⟨b, rfl, h2, fun q hq => h3 q (key q hq) hq⟩
theorem GoUp.last {fit f p : Nat} {x : Int} (h : GoUp L suc tk fit f p x) (hp : L < p) : GoP L suc tk fit f x :=
  h.all fun q hq h1 => by have := h1.lo; omega
/-- nothing that stands at p reads -/
theorem none_reads {f p : Nat} (hf : f ≤ p) (h : ∀ i, At L suc tk f p i → tk p i = false) : ∀ q j, p + 1 ≤ q → ¬ At L suc tk f q j := by
  refine at_none (by omega) fun i hi => ?_
  rcases hi with ⟨h1, _, _⟩ | ⟨q, j, h1, _, h3, _, h5⟩
  · omega
  · obtain rfl : p = q := by omega
    rw [h _ h3] at h5
    cases h5
theorem FindP.hit {fit fr i : Nat} {x : Int} (h : GoP L suc tk fit i x) (hx : 0 ≤ x) (hi : fr ≤ i) (hno : ∀ f p, fr ≤ f → f < i → ¬ At L suc tk f p fit) : FindP L suc tk fit fr i x := by
  rcases h with ⟨rfl, _⟩ | ⟨b, rfl, h2, h3⟩
  · omega
  · exact .inr ⟨i, b, rfl, rfl, hi, h2, h3, hno⟩
theorem findP_miss {fit fr i : Nat} {x : Int} (h : GoP L suc tk fit i x) (hx : x < 0) (hno : ∀ f p, fr ≤ f → f < i → ¬ At L suc tk f p fit) : ∀ f p, fr ≤ f → f < i + 1 → ¬ At L suc tk f p fit := by
  intro f p h1 h2
  by_cases e : f = i
  · subst e
    rcases h with ⟨rfl, h3⟩ | ⟨b, rfl, _⟩
    · exact h3 p
    · omega
  · exact hno f p h1 (by omega)
theorem findP_none {fit fr i : Nat} (hi : L < i) (hno : ∀ f p, fr ≤ f → f < i → ¬ At L suc tk f p fit) : FindP L suc tk fit fr (-1) (-1) :=
  .inl ⟨rfl, rfl, fun f p h1 h2 => hno f p h1 (by have := h2.lo; omega) h2⟩

/-- the reference's next round under way: of the first k operations those that stand and read have been followed -/
def NextUp (L : Nat) (suc : Nat → Nat → List Nat) (tk : Nat → Nat → Bool) (f p k : Nat) (N : Nat → Bool) (any : Bool) : Prop :=
  (∀ j, N j = true ↔ ∃ i, i < k ∧ At L suc tk f p i ∧ tk p i = true ∧ Rch suc (p + 1) (i + 1) j) ∧ (∀ j, N j = true → ∀ x ∈ suc (p + 1) j, N x = true) ∧ (any = true ↔ ∃ i, i < k ∧ At L suc tk f p i ∧ tk p i = true)
theorem nextUp_zero {f p : Nat} : NextUp L suc tk f p 0 (fun _ => false) false :=
  ⟨fun j => ⟨fun h => (by cases h), fun ⟨i, h, _⟩ => (by omega)⟩, fun j h => (by cases h), ⟨fun h => (by cases h), fun ⟨i, h, _⟩ => (by omega)⟩⟩
theorem NextUp.miss {f p k : Nat} {N : Nat → Bool} {any : Bool} (h : NextUp L suc tk f p k N any) (hn : ¬ (At L suc tk f p k ∧ tk p k = true)) : NextUp L suc tk f p (k + 1) N any := by
  have key : ∀ i, i < k + 1 → At L suc tk f p i → tk p i = true → i < k := fun i h1 h2 h3 => by
    by_cases e : i = k
    · subst e; exact absurd ⟨h2, h3⟩ hn
    · omega
  refine ⟨fun j => ⟨fun hj => ?_, fun ⟨i, h1, h2, h3, h4⟩ => (h.1 j).2 ⟨i, key i h1 h2 h3, h2, h3, h4⟩⟩, h.2.1, ⟨fun ha => ?_, fun ⟨i, h1, h2, h3⟩ => h.2.2.2 ⟨i, key i h1 h2 h3, h2, h3⟩⟩⟩
  · obtain ⟨i, h1, h2⟩ := (h.1 j).1 hj
    exact ⟨i, by omega, h2⟩
  · obtain ⟨i, h1, h2⟩ := h.2.2.1 ha
    exact ⟨i, by omega, h2⟩
theorem NextUp.hit {f p k : Nat} {N N' : Nat → Bool} {any : Bool} (h : NextUp L suc tk f p k N any) (h1 : At L suc tk f p k) (h2 : tk p k = true) (hN : ∀ j, N' j = true ↔ N j = true ∨ Rch suc (p + 1) (k + 1) j) (hc : ∀ j, N' j = true → ∀ x ∈ suc (p + 1) j, N' x = true) : NextUp L suc tk f p (k + 1) N' true := by
  refine ⟨fun j => ⟨fun hj => ?_, fun ⟨i, k1, k2, k3, k4⟩ => ?_⟩, hc, ⟨fun _ => ⟨k, by omega, h1, h2⟩, fun _ => rfl⟩⟩
  · rcases (hN j).1 hj with h3 | h3
    · obtain ⟨i, k1, k2⟩ := (h.1 j).1 h3
      exact ⟨i, by omega, k2⟩
    · exact ⟨k, by omega, h1, h2, h3⟩
  · by_cases e : i = k
    · subst e; exact (hN j).2 (.inr k4)
    · exact (hN j).2 (.inl ((h.1 j).2 ⟨i, by omega, k2, k3, k4⟩))
theorem NextUp.full {f p n : Nat} {N : Nat → Bool} {any : Bool} (h : NextUp L suc tk f p n N any) (hf : f ≤ p) (hp : p < L) (hn : ∀ i, At L suc tk f p i → i < n) :
    (∀ j, N j = true ↔ At L suc tk f (p + 1) j) ∧ (any = false → ∀ q j, p + 1 ≤ q → ¬ At L suc tk f q j) := by
  refine ⟨fun j => ?_, fun ha => ?_⟩
  · rw [h.1 j, at_pre]
    constructor
    · rintro ⟨i, _, h2, h3, h4⟩
      exact ⟨i + 1, .inr ⟨p, i, rfl, rfl, h2, hp, h3⟩, h4⟩
    · rintro ⟨i, h1, h2⟩
      rcases h1 with ⟨h1, _, _⟩ | ⟨q, j', h1, rfl, h3, h4, h5⟩
      · omega
      · obtain rfl : p = q := by omega
        exact ⟨j', hn _ h3, h3, h5, h2⟩
  · refine none_reads hf fun i hi => ?_
    cases hb : tk p i
    · rfl
    · have := h.2.2.2 ⟨i, hn _ hi, hi, hb⟩
      rw [ha] at this
      cases this
end
end Go.Proofs.YtobpecgecopdnaaDoor

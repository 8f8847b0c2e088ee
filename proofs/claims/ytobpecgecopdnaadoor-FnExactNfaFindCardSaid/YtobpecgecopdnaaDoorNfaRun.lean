/-
  The program's search with threads, in plain words: what a closing of all threads leaves, what a round of the run keeps, what the run finds. No program here. No condition.
-/
import Derived.Test.YtobpecgecopdnaaDoorNfaSem
namespace Go.Proofs.YtobpecgecopdnaaDoor
set_option linter.unusedVariables false

/-- a thread: its operation, the place where it began -/
abbrev Thr := Nat × Nat
/-- in order of where they began -/
def Ord (T : List Thr) : Prop := T.Pairwise fun a b => a.2 ≤ b.2
/-- what is found, when the last operation is met by a thread that began at g -/
def upd (r : Int × Int) (g p : Nat) : Int × Int := if r.1 < 0 ∨ (g : Int) ≤ r.1 then (g, p) else r
section
variable {suc : Nat → Nat → List Nat} {rdg : Nat → Bool} {fit : Nat} {p : Nat}
/-- a closing of threads, of which those in P are done: M the marks, A those that read, r what is found (r0 before) -/
structure CloseP (suc : Nat → Nat → List Nat) (rdg : Nat → Bool) (fit p : Nat) (P : List Thr) (M : Nat → Bool) (A : List Thr) (r0 r : Int × Int) : Prop where
  marks : ∀ j, M j = true ↔ ∃ t ∈ P, Rch suc p t.1 j
  sound : ∀ a ∈ A, rdg a.1 = true ∧ ∃ t ∈ P, t.2 = a.2 ∧ Rch suc p t.1 a.1
  full : ∀ t ∈ P, ∀ j, rdg j = true → Rch suc p t.1 j → ∃ a ∈ A, a.1 = j ∧ a.2 ≤ t.2
  ord : Ord A
  clos : ∀ j, M j = true → ∀ k ∈ suc p j, M k = true
  res : (M fit = false ∧ r = r0) ∨ (M fit = true ∧ ∃ g, (∃ t ∈ P, t.2 = g ∧ Rch suc p t.1 fit) ∧ (∀ t ∈ P, Rch suc p t.1 fit → g ≤ t.2) ∧ r = upd r0 g p)
theorem closeP_start (r : Int × Int) : CloseP suc rdg fit p [] (fun _ => false) [] r r :=
  ⟨fun j => ⟨fun h => (by cases h), fun ⟨t, h, _⟩ => (by simp at h)⟩, fun a h => (by simp at h), fun t h => (by simp at h), .nil, fun j h => (by cases h), .inl ⟨rfl, rfl⟩⟩
/-- .. and one of them, t, is under way -/
structure CloseI (suc : Nat → Nat → List Nat) (rdg : Nat → Bool) (fit p : Nat) (P : List Thr) (t : Thr) (M : Nat → Bool) (A : List Thr) (st : List Nat) (r0 r : Int × Int) : Prop where
  clo : ∃ M0, Clos suc p M0 M st t.1 ∧ (∀ j, M0 j = true ↔ ∃ t ∈ P, Rch suc p t.1 j)
  sound : ∀ a ∈ A, rdg a.1 = true ∧ ∃ t' ∈ P ++ [t], t'.2 = a.2 ∧ Rch suc p t'.1 a.1
  full : ∀ t ∈ P, ∀ j, rdg j = true → Rch suc p t.1 j → ∃ a ∈ A, a.1 = j ∧ a.2 ≤ t.2
  now : ∀ j, M j = true → rdg j = true → ∃ a ∈ A, a.1 = j ∧ a.2 ≤ t.2
  ord : Ord A
  res : (M fit = false ∧ r = r0) ∨ (M fit = true ∧ ∃ g, (∃ t' ∈ P ++ [t], t'.2 = g ∧ Rch suc p t'.1 fit) ∧ (∀ t ∈ P, Rch suc p t.1 fit → g ≤ t.2) ∧ g ≤ t.2 ∧ r = upd r0 g p)
  lo : ∀ t' ∈ P, t'.2 ≤ t.2
theorem CloseP.begin {P : List Thr} {t : Thr} {M : Nat → Bool} {A : List Thr} {r0 r : Int × Int} (h : CloseP suc rdg fit p P M A r0 r) (hlo : ∀ t' ∈ P, t'.2 ≤ t.2) : CloseI suc rdg fit p P t M A [t.1] r0 r := by
  refine ⟨⟨M, .start h.clos, h.marks⟩, fun a ha => ?_, h.full, fun j hj hr => ?_, h.ord, ?_, hlo⟩
  · obtain ⟨h1, t', h2, h3⟩ := h.sound a ha
    exact ⟨h1, t', by simp [h2], h3⟩
  · obtain ⟨t', h1, h2⟩ := (h.marks j).1 hj
    obtain ⟨a, h3, h4, h5⟩ := h.full t' h1 j hr h2
    exact ⟨a, h3, h4, Nat.le_trans h5 (hlo t' h1)⟩
  · rcases h.res with h1 | ⟨h1, g, ⟨t', h2, h3, h4⟩, h5, h6⟩
    · exact .inl h1
    · exact .inr ⟨h1, g, ⟨t', by simp [h2], h3, h4⟩, h5, by rw [← h3]; exact hlo t' h2, h6⟩
theorem CloseI.skip {P : List Thr} {t : Thr} {M : Nat → Bool} {A : List Thr} {st : List Nat} {j : Nat} {r0 r : Int × Int} (h : CloseI suc rdg fit p P t M A (st ++ [j]) r0 r) (hj : M j = true) : CloseI suc rdg fit p P t M A st r0 r := by
  obtain ⟨⟨M0, h1, h2⟩, s, f, n, o, e, l⟩ := h
  exact ⟨⟨M0, h1.skip hj, h2⟩, s, f, n, o, e, l⟩
theorem CloseI.take {P : List Thr} {t : Thr} {M : Nat → Bool} {A A' : List Thr} {st st' : List Nat} {j : Nat} {r0 r r' : Int × Int} (h : CloseI suc rdg fit p P t M A (st ++ [j]) r0 r) (hj : M j = false)
    (hs : ∀ k, k ∈ st' ↔ k ∈ st ∨ k ∈ suc p j) (hA : A' = if rdg j = true then A ++ [(j, t.2)] else A) (hr : r' = if j = fit then upd r t.2 p else r) : CloseI suc rdg fit p P t (mkd M j) A' st' r0 r' := by
  have hlo := h.lo
  obtain ⟨⟨M0, h1, h2⟩, s, f, n, o, e, l⟩ := h
  have hR : Rch suc p t.1 j := h1.stk j (by simp)
  have hsub : ∀ a ∈ A, a ∈ A' := fun a ha => by rw [hA]; split <;> simp [ha]
  refine ⟨⟨M0, h1.take hs, h2⟩, fun a ha => ?_, fun t' h3 j' h4 h5 => ?_, fun j' h3 h4 => ?_, ?_, ?_, l⟩
  · rw [hA] at ha
    split at ha
    · rename_i hrd
      rcases List.mem_append.1 ha with h3 | h3
      · exact s a h3
      · simp at h3
        subst h3
        exact ⟨hrd, t, by simp, rfl, hR⟩
    · exact s a ha
  · obtain ⟨a, k1, k2⟩ := f t' h3 j' h4 h5
    exact ⟨a, hsub a k1, k2⟩
  · rcases mkd_iff.1 h3 with rfl | h5
    · exact ⟨(j', t.2), by rw [hA, if_pos h4]; simp, rfl, Nat.le_refl _⟩
    · obtain ⟨a, k1, k2⟩ := n j' h5 h4
      exact ⟨a, hsub a k1, k2⟩
  · rw [hA]
    split
    · refine List.pairwise_append.2 ⟨o, List.pairwise_singleton _ _, fun a ha b hb => ?_⟩
      simp at hb
      subst hb
      obtain ⟨_, t', k1, k2, _⟩ := s a ha
      show a.2 ≤ t.2
      rw [← k2]
      rcases List.mem_append.1 k1 with k3 | k3
      · exact hlo t' k3
      · simp at k3; subst k3; exact Nat.le_refl _
    · exact o
  · by_cases ej : j = fit
    · subst ej
      rw [if_pos rfl] at hr
      right
      rcases e with ⟨k1, k2⟩ | ⟨k1, _⟩
      · refine ⟨mkd_self _ _, t.2, ⟨t, by simp, rfl, hR⟩, fun t' k3 k4 => ?_, Nat.le_refl _, by rw [hr, k2]⟩
        have : M0 j = true := (h2 j).2 ⟨t', k3, k4⟩
        rw [h1.old j this] at k1
        cases k1
      · rw [hj] at k1; cases k1
    · rw [if_neg ej] at hr
      rw [mkd_other (fun h => ej h.symm), hr]
      exact e
theorem CloseI.done {P : List Thr} {t : Thr} {M : Nat → Bool} {A : List Thr} {r0 r : Int × Int} (h : CloseI suc rdg fit p P t M A [] r0 r) : CloseP suc rdg fit p (P ++ [t]) M A r0 r := by
  obtain ⟨⟨M0, h1, h2⟩, s, f, n, o, e, l⟩ := h
  obtain ⟨d1, d2⟩ := h1.done
  have hm : ∀ j, M j = true ↔ ∃ t' ∈ P ++ [t], Rch suc p t'.1 j := fun j => by
    rw [d1 j, h2 j]
    constructor
    · rintro (⟨t', k1, k2⟩ | k)
      · exact ⟨t', by simp [k1], k2⟩
      · exact ⟨t, by simp, k⟩
    · rintro ⟨t', k1, k2⟩
      rcases List.mem_append.1 k1 with k3 | k3
      · exact .inl ⟨t', k3, k2⟩
      · simp at k3; subst k3; exact .inr k2
  refine ⟨hm, s, fun t' h3 j h4 h5 => ?_, o, d2, ?_⟩
  · rcases List.mem_append.1 h3 with k3 | k3
    · exact f t' k3 j h4 h5
    · simp at k3; subst k3
      exact n j ((hm j).2 ⟨t', by simp, h5⟩) h4
  · rcases e with k | ⟨k1, g, k2, k3, k4, k5⟩
    · exact .inl k
    · refine .inr ⟨k1, g, k2, fun t' h3 h4 => ?_, k5⟩
      rcases List.mem_append.1 h3 with k6 | k6
      · exact k3 t' k6 h4
      · simp at k6; subst k6; exact k4
end

section
variable {L : Nat} {suc : Nat → Nat → List Nat} {tk : Nat → Nat → Bool} {rdg : Nat → Bool} {fit fr : Nat}
/-- still to be looked at: not behind what is found -/
def Rel (r : Int × Int) (f : Nat) : Prop := r.1 < 0 ∨ (f : Int) ≤ r.1
/-- what is found of the places ahead of p -/
def ResP (L : Nat) (suc : Nat → Nat → List Nat) (tk : Nat → Nat → Bool) (fit fr p : Nat) (r : Int × Int) : Prop :=
  (r = (-1, -1) ∧ ∀ f q, fr ≤ f → q < p → ¬ At L suc tk f q fit) ∨
  ∃ a b : Nat, r = ((a : Int), (b : Int)) ∧ fr ≤ a ∧ b < p ∧ At L suc tk a b fit ∧ (∀ q, q < p → At L suc tk a q fit → q ≤ b) ∧ ∀ f q, fr ≤ f → f < a → q < p → ¬ At L suc tk f q fit
/-- the run at the head of a round: T the threads that came, r what is found -/
structure RunP (L : Nat) (suc : Nat → Nat → List Nat) (tk : Nat → Nat → Bool) (fit fr p : Nat) (T : List Thr) (r : Int × Int) : Prop where
  sound : ∀ t ∈ T, Pre L suc tk t.2 p t.1 ∧ fr ≤ t.2
  full : ∀ f, fr ≤ f → f < p → Rel r f → ∀ i, Pre L suc tk f p i → ∃ t ∈ T, t.1 = i ∧ t.2 ≤ f
  ord : Ord T
  lt : ∀ t ∈ T, t.2 < p
  res : ResP L suc tk fit fr p r
theorem resP_start : ResP L suc tk fit fr fr (-1, -1) := .inl ⟨rfl, fun f q h1 h2 h3 => by have := h3.lo; omega⟩
theorem runP_start : RunP L suc tk fit fr fr [] (-1, -1) :=
  ⟨fun t h => (by simp at h), fun f h1 h2 => (by omega), .nil, fun t h => (by simp at h), resP_start⟩
/-- .. with the thread that begins here -/
structure RunN (L : Nat) (suc : Nat → Nat → List Nat) (tk : Nat → Nat → Bool) (fit fr p : Nat) (T : List Thr) (r : Int × Int) : Prop where
  sound : ∀ t ∈ T, Pre L suc tk t.2 p t.1 ∧ fr ≤ t.2
  full : ∀ f, fr ≤ f → f ≤ p → Rel r f → ∀ i, Pre L suc tk f p i → ∃ t ∈ T, t.1 = i ∧ t.2 ≤ f
  ord : Ord T
  le : ∀ t ∈ T, t.2 ≤ p
  res : ResP L suc tk fit fr p r
theorem RunP.new {p : Nat} {T : List Thr} {r : Int × Int} (h : RunP L suc tk fit fr p T r) (hf : fr ≤ p) (hp : p ≤ L) (hr : r.1 < 0) : RunN L suc tk fit fr p (T ++ [(0, p)]) r := by
  refine ⟨fun t ht => ?_, fun f h1 h2 h3 i h4 => ?_, ?_, fun t ht => ?_, h.res⟩
  · rcases List.mem_append.1 ht with h1 | h1
    · exact h.sound t h1
    · simp at h1; subst h1; exact ⟨.inl ⟨rfl, rfl, hp⟩, hf⟩
  · by_cases e : f = p
    · subst e
      exact ⟨(0, f), by simp, (pre_self h4).symm, Nat.le_refl _⟩
    · obtain ⟨t, k1, k2⟩ := h.full f h1 (by omega) h3 i h4
      exact ⟨t, by simp [k1], k2⟩
  · refine List.pairwise_append.2 ⟨h.ord, List.pairwise_singleton _ _, fun a ha b hb => ?_⟩
    simp at hb
    subst hb
    exact Nat.le_of_lt (h.lt a ha)
  · rcases List.mem_append.1 ht with h1 | h1
    · exact Nat.le_of_lt (h.lt t h1)
    · simp at h1; subst h1; exact Nat.le_refl _
theorem RunP.old {p : Nat} {T : List Thr} {r : Int × Int} (h : RunP L suc tk fit fr p T r) (hr : ¬ r.1 < 0) : RunN L suc tk fit fr p T r := by
  refine ⟨h.sound, fun f h1 h2 h3 i h4 => ?_, h.ord, fun t ht => Nat.le_of_lt (h.lt t ht), h.res⟩
  have h5 : f < p := by
    rcases h.res with ⟨rfl, _⟩ | ⟨a, b, rfl, _, k1, k2, _⟩
    · exact absurd (by decide : ((-1 : Int), (-1 : Int)).1 < 0) hr
    · have := k2.lo
      rcases h3 with h3 | h3
      · exact absurd h3 hr
      · simp at h3; omega
  exact h.full f h1 h5 h3 i h4
/-- no thread is left -/
theorem RunN.none {p : Nat} {r : Int × Int} (h : RunN L suc tk fit fr p [] r) (hf : fr ≤ p) (hp : p ≤ L) : FindP L suc tk fit fr r.1 r.2 := by
  have hno : ∀ f, fr ≤ f → f ≤ p → Rel r f → ∀ q j, p ≤ q → ¬ At L suc tk f q j := fun f h1 h2 h3 =>
    at_none h2 fun i hi => by obtain ⟨t, k, _⟩ := h.full f h1 h2 h3 i hi; simp at k
  rcases h.res with ⟨rfl, _⟩ | ⟨a, b, rfl, h1, h2, h3, h4, h5⟩
  · exact absurd (At.start hp) (hno p hf (Nat.le_refl _) (.inl (by decide)) p 0 (Nat.le_refl _))
  · have h6 := h3.lo
    refine .inr ⟨a, b, rfl, rfl, h1, h3, fun q hq => ?_, fun f q k1 k2 k3 => ?_⟩
    · rcases Nat.lt_or_ge q p with k | k
      · exact h4 q k hq
      · exact absurd hq (hno a h1 (by omega) (.inr (Int.le_refl _)) q fit k)
    · rcases Nat.lt_or_ge q p with k | k
      · exact h5 f q k1 k2 k k3
      · exact hno f k1 (by omega) (.inr (by show (f : Int) ≤ a; omega)) q fit k k3
theorem RunP.last {p : Nat} {T : List Thr} {r : Int × Int} (h : RunP L suc tk fit fr p T r) (hp : L < p) : FindP L suc tk fit fr r.1 r.2 := by
  rcases h.res with ⟨rfl, h1⟩ | ⟨a, b, rfl, h1, h2, h3, h4, h5⟩
  · exact .inl ⟨rfl, rfl, fun f q k1 k2 => h1 f q k1 (by have := k2.lo; omega) k2⟩
  · exact .inr ⟨a, b, rfl, rfl, h1, h3, fun q hq => h4 q (by have := hq.lo; omega) hq, fun f q k1 k2 k3 => h5 f q k1 k2 (by have := k3.lo; omega) k3⟩
/-- what is found behind the closing at p -/
theorem CloseP.resP {p : Nat} {T A : List Thr} {M : Nat → Bool} {r r' : Int × Int} (hn : RunN L suc tk fit fr p T r) (h : CloseP suc rdg fit p T M A r r') : ResP L suc tk fit fr (p + 1) r' := by
  have hsound : ∀ t ∈ T, Rch suc p t.1 fit → At L suc tk t.2 p fit := fun t ht hR => at_pre.2 ⟨t.1, (hn.sound t ht).1, hR⟩
  have hfull : ∀ f, fr ≤ f → Rel r f → At L suc tk f p fit → ∃ t ∈ T, t.2 ≤ f ∧ Rch suc p t.1 fit := fun f h1 h2 h3 => by
    have h4 := h3.lo
    obtain ⟨i, k1, k2⟩ := at_pre.1 h3
    obtain ⟨t, k3, rfl, k4⟩ := hn.full f h1 h4.1 h2 i k1
    exact ⟨t, k3, k4, k2⟩
  rcases h.res with ⟨h1, h0⟩ | ⟨h1, g, ⟨t, h2, h3, h4⟩, h5, h6⟩
  · rw [h0]
    have hno : ∀ f, fr ≤ f → Rel r f → ¬ At L suc tk f p fit := fun f k1 k2 k3 => by
      obtain ⟨t, k4, _, k5⟩ := hfull f k1 k2 k3
      have := (h.marks fit).2 ⟨t, k4, k5⟩
      rw [h1] at this
      cases this
    rcases hn.res with ⟨rfl, k1⟩ | ⟨a, b, rfl, k1, k2, k3, k4, k5⟩
    · refine .inl ⟨rfl, fun f q k2 k3 k4 => ?_⟩
      by_cases e : q = p
      · subst e; exact hno f k2 (.inl (by decide)) k4
      · exact k1 f q k2 (by omega) k4
    · refine .inr ⟨a, b, rfl, k1, by omega, k3, fun q q1 q2 => ?_, fun f q q1 q2 q3 q4 => ?_⟩
      · by_cases e : q = p
        · subst e; exact absurd q2 (hno a k1 (.inr (Int.le_refl _)))
        · exact k4 q (by omega) q2
      · by_cases e : q = p
        · subst e; exact hno f q1 (.inr (by show (f : Int) ≤ a; omega)) q4
        · exact k5 f q q1 q2 (by omega) q4
  · have hg : At L suc tk g p fit := by rw [← h3]; exact hsound t h2 h4
    have hfg : fr ≤ g := by rw [← h3]; exact (hn.sound t h2).2
    have hmin : ∀ f, fr ≤ f → Rel r f → At L suc tk f p fit → g ≤ f := fun f k1 k2 k3 => by
      obtain ⟨t', k4, k5, k6⟩ := hfull f k1 k2 k3
      exact Nat.le_trans (h5 t' k4 k6) k5
    rw [h6]
    unfold upd
    rcases hn.res with ⟨rfl, k1⟩ | ⟨a, b, rfl, k1, k2, k3, k4, k5⟩
    · rw [if_pos (.inl (by decide))]
      refine .inr ⟨g, p, rfl, hfg, by omega, hg, fun q _ _ => by omega, fun f q q1 q2 q3 q4 => ?_⟩
      by_cases e : q = p
      · subst e; have := hmin f q1 (.inl (by decide)) q4; omega
      · exact k1 f q q1 (by omega) q4
    · by_cases hga : g ≤ a
      · rw [if_pos (.inr (by show (g : Int) ≤ a; omega))]
        refine .inr ⟨g, p, rfl, hfg, by omega, hg, fun q _ _ => by omega, fun f q q1 q2 q3 q4 => ?_⟩
        by_cases e : q = p
        · subst e; have := hmin f q1 (.inr (by show (f : Int) ≤ a; omega)) q4; omega
        · exact k5 f q q1 (by omega) (by omega) q4
      · rw [if_neg (by show ¬ ((a : Int) < 0 ∨ (g : Int) ≤ a); omega)]
        refine .inr ⟨a, b, rfl, k1, by omega, k3, fun q q1 q2 => ?_, fun f q q1 q2 q3 q4 => ?_⟩
        · by_cases e : q = p
          · subst e; have := hmin a k1 (.inr (Int.le_refl _)) q2; omega
          · exact k4 q (by omega) q2
        · by_cases e : q = p
          · subst e; have := hmin f q1 (.inr (by show (f : Int) ≤ a; omega)) q4; omega
          · exact k5 f q q1 q2 (by omega) q4
/-- the threads of the next round: those of A that read and are still to be looked at -/
def nextT (tk : Nat → Nat → Bool) (p : Nat) (r : Int × Int) (A : List Thr) : List Thr :=
  (A.filter fun a => tk p a.1 && (decide (r.1 < 0) || decide ((a.2 : Int) ≤ r.1))).map fun a => (a.1 + 1, a.2)
theorem upd_mono {r : Int × Int} {g p f : Nat} (h : Rel (upd r g p) f) : Rel r f := by
  unfold upd at h
  split at h
  · rename_i h1
    rcases h1 with h1 | h1
    · exact .inl h1
    · rcases h with h | h
      · simp at h; omega
      · exact .inr (by simp at h; omega)
  · exact h
theorem CloseP.next {p : Nat} {T A : List Thr} {M : Nat → Bool} {r r' : Int × Int} (hn : RunN L suc tk fit fr p T r) (h : CloseP suc rdg fit p T M A r r') (hp : p < L) (hrd : ∀ j, tk p j = true → rdg j = true) : RunP L suc tk fit fr (p + 1) (nextT tk p r' A) r' := by
  have hrel : ∀ f, Rel r' f → Rel r f := fun f hf => by
    rcases h.res with ⟨_, rfl⟩ | ⟨_, g, _, _, rfl⟩
    · exact hf
    · exact upd_mono hf
  have hA : ∀ a ∈ A, At L suc tk a.2 p a.1 ∧ fr ≤ a.2 ∧ a.2 ≤ p := fun a ha => by
    obtain ⟨_, t, h1, h2, h3⟩ := h.sound a ha
    obtain ⟨h4, h5⟩ := hn.sound t h1
    rw [h2] at h4 h5
    exact ⟨at_pre.2 ⟨t.1, h4, h3⟩, h5, by rw [← h2]; exact hn.le t h1⟩
  refine ⟨fun t ht => ?_, fun f h1 h2 h3 i h4 => ?_, ?_, fun t ht => ?_, h.resP hn⟩
  · obtain ⟨a, h1, rfl⟩ := List.mem_map.1 ht
    obtain ⟨h2, h3⟩ := List.mem_filter.1 h1
    rw [Bool.and_eq_true] at h3
    obtain ⟨k1, k2, _⟩ := hA a h2
    exact ⟨.inr ⟨p, a.1, rfl, rfl, k1, hp, h3.1⟩, k2⟩
  · rcases h4 with ⟨k1, _, _⟩ | ⟨q, j, k1, rfl, k3, k4, k5⟩
    · omega
    · obtain rfl : p = q := by omega
      obtain ⟨i0, k6, k7⟩ := at_pre.1 k3
      obtain ⟨t, q1, rfl, q2⟩ := hn.full f h1 (by omega) (hrel f h3) i0 k6
      obtain ⟨a, q3, rfl, q4⟩ := h.full t q1 j (hrd j k5) k7
      refine ⟨(a.1 + 1, a.2), List.mem_map.2 ⟨a, List.mem_filter.2 ⟨q3, ?_⟩, rfl⟩, rfl, by show a.2 ≤ f; omega⟩
      rw [k5, Bool.true_and, Bool.or_eq_true, decide_eq_true_eq, decide_eq_true_eq]
      rcases h3 with h3 | h3
      · exact .inl h3
      · right; omega
  · unfold nextT Ord
    rw [List.pairwise_map]
    exact h.ord.filter _
  · obtain ⟨a, h1, rfl⟩ := List.mem_map.1 ht
    obtain ⟨h2, _⟩ := List.mem_filter.1 h1
    have := (hA a h2).2.2
    show a.2 < p + 1
    omega
end
end Go.Proofs.YtobpecgecopdnaaDoor

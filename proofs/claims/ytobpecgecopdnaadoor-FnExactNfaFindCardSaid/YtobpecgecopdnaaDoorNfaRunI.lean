/-
  A round of the program's run, in plain words: which threads go on; what holds of the run at the head of a round. No condition.
-/
import Derived.Test.YtobpecgecopdnaaDoorNfaClose
import Derived.Test.YtobpecgecopdnaaDoorNfaGo
namespace Go.Proofs.YtobpecgecopdnaaDoor
open Go.RowKit
set_option linter.unusedVariables false
set_option linter.unusedSimpArgs false

/-- does a thread go on behind p? -/
def goOn (V : List OpV) (R : List Nat) (L p : Nat) (r : Int × Int) (a : Thr) : Bool := (decide (p < L) && tkV V R p a.1) && (decide (r.1 < 0) || decide ((a.2 : Int) ≤ r.1))
/-- those that go on, behind their operations -/
def onT (c : Thr → Bool) (A : List Thr) : List Thr := (A.filter c).map fun a => (a.1 + 1, a.2)
theorem onT_snoc (c : Thr → Bool) (A : List Thr) (a : Thr) : onT c (A ++ [a]) = onT c A ++ if c a = true then [(a.1 + 1, a.2)] else [] := by
  unfold onT
  rw [List.filter_append, List.map_append]
  congr 1
  cases h : c a <;> simp [h]
theorem onT_len (c : Thr → Bool) (A : List Thr) : (onT c A).length ≤ A.length := by
  unfold onT
  rw [List.length_map]
  exact List.length_filter_le _ _
theorem onT_next {V : List OpV} {R : List Nat} {L p : Nat} {r : Int × Int} {A : List Thr} (hp : p < L) : onT (goOn V R L p r) A = nextT (tkV V R) p r A := by
  unfold onT nextT
  congr 2
  funext a
  unfold goOn
  rw [decide_eq_true hp, Bool.true_and]
theorem onT_end {V : List OpV} {R : List Nat} {L p : Nat} {r : Int × Int} {A : List Thr} (hp : ¬ p < L) : onT (goOn V R L p r) A = [] := by
  unfold onT
  rw [List.filter_eq_nil_iff.2 (fun a _ => by unfold goOn; rw [decide_eq_false hp]; simp)]
  rfl
theorem onT_mem {c : Thr → Bool} {A : List Thr} {t : Thr} (h : t ∈ onT c A) : ∃ a ∈ A, c a = true ∧ t = (a.1 + 1, a.2) := by
  obtain ⟨a, h1, rfl⟩ := List.mem_map.1 h
  obtain ⟨h2, h3⟩ := List.mem_filter.1 h1
  exact ⟨a, h2, h3, rfl⟩
theorem CloseP.stop {L : Nat} {suc : Nat → Nat → List Nat} {tk : Nat → Nat → Bool} {rdg : Nat → Bool} {fit fr : Nat} {T A : List Thr} {M : Nat → Bool} {r r' : Int × Int} (hn : RunN L suc tk fit fr L T r) (h : CloseP suc rdg fit L T M A r r') : RunP L suc tk fit fr (L + 1) [] r' := by
  refine ⟨fun t ht => by simp at ht, fun f h1 h2 h3 i h4 => ?_, .nil, fun t ht => by simp at ht, h.resP hn⟩
  rcases h4 with ⟨k1, _, k3⟩ | ⟨q, j, k1, _, _, k4, _⟩
  · omega
  · omega
/-- what takes answers of an operation that reads -/
theorem take_tk {V : List OpV} {R : List Nat} {p k : Nat} (h1 : 1 ≤ (opAt V k).1) (h4 : (opAt V k).1 < 4) : takeB (opAt V k) ((R.getD p 0 : Nat) : Int) = tkV V R p k := by
  obtain ⟨v, hv⟩ : ∃ v, opAt V k = v := ⟨_, rfl⟩
  obtain ⟨op, a, b, neg, set⟩ := v
  rw [hv] at h1 h4 ⊢
  simp only [] at h1 h4
  have h : op = 1 ∨ op = 2 ∨ op = 3 := by omega
  rcases h with rfl | rfl | rfl
  · rw [tk_char hv]; rfl
  · rw [tk_any hv]; rfl
  · rw [tk_set hv]; rfl
/-- the run at the head of a round -/
structure RunO (w wr : World) (r sg n : Nat) (ov lv : Value) (Q : List OpQ) (L : Nat) (R : List Nat) (fr p : Nat) (T : List Thr) (xy : Int × Int) (S : Nat → Nat) (tv : Value) : Prop where
  thr : wr.ownsRow (w.heap.size + 2) 88 2 tv T.length (thC T)
  run : RunM wr r ov lv (.slice (some ⟨sg, 0, none⟩) n n) xy
  mks : Marks wr sg n (fun j => .int .i64 (S j : Int))
  sle : ∀ j, j < n → S j ≤ p
  below : Below w.heap.size w wr
  plain : RunP L (SU Q L) (TK Q R) (n - 1) fr p T xy
  lt : ∀ t ∈ T, t.1 < n
  len : T.length ≤ n
theorem thC_snoc (T : List Thr) (i f : Nat) : thC (T ++ [(i, f)]) = thC T ++ [.int .i64 (i : Int), .int .i64 (f : Int)] := by rw [thC_append]; rfl
theorem mk_ints0 (n : Nat) (w : World) : Marks (w.alloc (.cells (madeCells #[.int .i64 0] n) 3)) w.heap.size n (fun _ => .int .i64 0) := by
  have hF := Fill.made w w (Below.refl _ _) (madeCells #[.int .i64 0] n) 3 (fun _ => .int .i64 0) (fun j hj => madeBytes_get _ _ _ (by simpa [size_madeCells] using hj))
  rw [size_madeCells] at hF
  exact Marks.of_fill hF
end Go.Proofs.YtobpecgecopdnaaDoor

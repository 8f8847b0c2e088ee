/-
  A pattern's nodes: are they a tree, how big is it. No condition.
-/
import Derived.Test.YtpolpihgclemnaaDoorNodesL
namespace Go.Proofs.YtpolpihgclemnaaDoor
open Go.RowKit
set_option linter.unusedVariables false
set_option linter.unusedSimpArgs false

/-- the kids lie ahead of their node, and each node but the last is a kid once -/
def TreeOk (K : List (List Int)) : Prop := 0 < K.length ∧ (∀ i, (h : i < K.length) → ∀ x ∈ K[i], 0 ≤ x ∧ x < i) ∧ ∀ j, j + 1 < K.length → K.flatten.count (j : Int) = 1
/-- the kids up to kid k of node i -/
def seenK (K : List (List Int)) (i k : Nat) : List Int := (K.take i).flatten ++ (K.getD i []).take k
theorem seenK_zero (K : List (List Int)) : seenK K 0 0 = [] := by simp [seenK]
theorem seenK_next {K : List (List Int)} {i k : Nat} (hk : k < (K.getD i []).length) : seenK K i (k + 1) = seenK K i k ++ [(K.getD i [])[k]] := by
  unfold seenK
  rw [List.take_succ_eq_append_getElem hk, List.append_assoc]
theorem seenK_row {K : List (List Int)} {i : Nat} (hi : i < K.length) : seenK K i (K.getD i []).length = seenK K (i + 1) 0 := by
  unfold seenK
  rw [List.take_of_length_le (Nat.le_refl _), List.take_succ_eq_append_getElem hi, List.flatten_append]
  simp [hi]
theorem seenK_all (K : List (List Int)) : seenK K K.length 0 = K.flatten := by simp [seenK]
theorem seenK_sub {K : List (List Int)} {i k : Nat} (hi : i < K.length) : (seenK K i k).Sublist K.flatten := by
  have h : K.flatten = (K.take i).flatten ++ (K[i] ++ (K.drop (i + 1)).flatten) := by
    conv => lhs; rw [← List.take_append_drop i K, List.flatten_append, List.drop_eq_getElem_cons hi, List.flatten_cons]
  rw [h]
  unfold seenK
  have e : K.getD i [] = K[i] := by simp [hi]
  rw [e]
  exact List.Sublist.append (List.Sublist.refl _) ((List.take_sublist _ _).trans (List.sublist_append_left _ _))
theorem TreeOk.not_nil : ¬ TreeOk [] := fun h => absurd h.1 (by simp)
theorem TreeOk.range {K : List (List Int)} (h : TreeOk K) {i k : Nat} (hi : i < K.length) (hk : k < (K.getD i []).length) : 0 ≤ (K.getD i [])[k] ∧ (K.getD i [])[k] < i := by
  have e : K.getD i [] = K[i] := by simp [hi]
  have := h.2.1 i hi (K.getD i [])[k] (by rw [← e]; exact List.getElem_mem hk)
  exact this
theorem TreeOk.once {K : List (List Int)} (h : TreeOk K) {i k : Nat} (hi : i < K.length) (hk : k < (K.getD i []).length) : ¬ (K.getD i [])[k] ∈ seenK K i k := by
  intro hm
  obtain ⟨h0, h1⟩ := h.range hi hk
  have hj : ((((K.getD i [])[k]).toNat : Nat) : Int) = (K.getD i [])[k] := Int.toNat_of_nonneg h0
  have hc := h.2.2 ((K.getD i [])[k]).toNat (by omega)
  rw [hj] at hc
  have h2 := (seenK_sub (k := k + 1) hi).count_le (K.getD i [])[k]
  rw [seenK_next hk, List.count_append, hc] at h2
  have h3 := List.one_le_count_iff.2 hm
  have h5 : List.count (K.getD i [])[k] [(K.getD i [])[k]] = 1 := by simp
  rw [h5] at h2
  omega
theorem TreeOk.used {K : List (List Int)} (h : TreeOk K) {j : Nat} (hj : j + 1 < K.length) : (j : Int) ∈ K.flatten := by
  have := h.2.2 j hj
  exact List.one_le_count_iff.1 (by omega)
/-- all kids lie in range, none twice, none left out -/
theorem TreeOk.of_used {K : List (List Int)} (h0 : 0 < K.length) (hr : ∀ i, (h : i < K.length) → ∀ x ∈ K[i], 0 ≤ x ∧ x < i) (hd : ∀ x : Int, K.flatten.count x ≤ 1) (hu : ∀ j, j + 1 < K.length → (j : Int) ∈ K.flatten) : TreeOk K :=
  ⟨h0, hr, fun j hj => by
    have h1 := List.one_le_count_iff.2 (hu j hj)
    have h2 := hd (j : Int)
    omega⟩

abbrev NdV := Int × Int × Int × Bool × List Int × List Int
/-- how often a node repeats -/
def oftenV (v : NdV) : Int := if v.1 = 9 then max 1 (max v.2.1 v.2.2.1) else 1
def sumK (s : List Int) (l : List Int) : Int := (l.map fun x => s.getD x.toNat 0).sum
def nodeSz (s : List Int) (v : NdV) : Int := min 100000 (1 + oftenV v * sumK s v.2.2.2.2.2)
def sizesL (L : List NdV) : List Int := L.foldl (fun s v => s ++ [nodeSz s v]) []
theorem sizesL_next (L : List NdV) (v : NdV) : sizesL (L ++ [v]) = sizesL L ++ [nodeSz (sizesL L) v] := by
  unfold sizesL
  rw [List.foldl_append]
  rfl
theorem snoc_ind {α : Type} {P : List α → Prop} (h0 : P []) (h1 : ∀ L v, P L → P (L ++ [v])) (L : List α) : P L := by
  rw [← L.reverse_reverse]
  induction L.reverse with
  | nil => exact h0
  | cons v r ih => rw [List.reverse_cons]; exact h1 _ _ ih
theorem sizesL_len (L : List NdV) : (sizesL L).length = L.length := by
  refine snoc_ind (P := fun L => (sizesL L).length = L.length) rfl (fun L v ih => ?_) L
  rw [sizesL_next, List.length_append, List.length_append, ih]
  rfl
theorem oftenV_pos (v : NdV) : 1 ≤ oftenV v := by unfold oftenV; split <;> omega
theorem sumK_nonneg {s : List Int} (hs : ∀ x ∈ s, 1 ≤ x ∧ x ≤ 100000) (l : List Int) : 0 ≤ sumK s l := by
  unfold sumK
  induction l with
  | nil => simp
  | cons a r ih =>
    rw [List.map_cons, List.sum_cons]
    have : 0 ≤ s.getD a.toNat 0 := by
      rw [List.getD_eq_getElem?_getD]
      by_cases h : a.toNat < s.length
      · rw [List.getElem?_eq_getElem h]; have := hs _ (List.getElem_mem h); simp; omega
      · rw [List.getElem?_eq_none (by omega)]; simp
    omega
theorem sumK_next (s l : List Int) (x : Int) : sumK s (l ++ [x]) = sumK s l + s.getD x.toNat 0 := by
  unfold sumK
  rw [List.map_append, List.sum_append]
  simp
theorem nodeSz_small {s : List Int} (hs : ∀ x ∈ s, 1 ≤ x ∧ x ≤ 100000) (v : NdV) : 1 ≤ nodeSz s v ∧ nodeSz s v ≤ 100000 := by
  have h1 := Int.mul_nonneg (Int.le_trans (by decide) (oftenV_pos v)) (sumK_nonneg hs v.2.2.2.2.2)
  unfold nodeSz
  omega
theorem sizesL_small (L : List NdV) : ∀ x ∈ sizesL L, 1 ≤ x ∧ x ≤ 100000 := by
  refine snoc_ind (P := fun L => ∀ x ∈ sizesL L, 1 ≤ x ∧ x ≤ 100000) (fun x hx => by simp [sizesL] at hx) (fun L v ih x hx => ?_) L
  rw [sizesL_next, List.mem_append] at hx
  rcases hx with hx | hx
  · exact ih x hx
  · simp at hx
    subst hx
    exact nodeSz_small ih v
theorem sumK_le {s : List Int} (hs : ∀ x ∈ s, 1 ≤ x ∧ x ≤ 100000) (l r : List Int) : sumK s l ≤ sumK s (l ++ r) := by
  have := sumK_nonneg hs r
  have e : sumK s (l ++ r) = sumK s l + sumK s r := by unfold sumK; rw [List.map_append, List.sum_append]
  omega
/-- the reference's round: it stops at the bound -/
def RefSum (o p sum : Int) : Prop := min 100000 sum = min 100000 (1 + o * p) ∧ 1 ≤ sum ∧ sum ≤ 200000
theorem RefSum.start {o : Int} : RefSum o 0 1 := by unfold RefSum; rw [Int.mul_zero]; omega
theorem RefSum.big {o p sum x : Int} (h : RefSum o p sum) (hp : 0 ≤ p) (ho : 1 ≤ o) (hx : 1 ≤ x) (hb : 100000 / x < o) : RefSum o (p + x) 100000 := by
  have h1 : 100000 < x * o := by
    have h2 : 100000 % x < x := Int.emod_lt_of_pos _ (by omega)
    have h3 := Int.mul_ediv_add_emod 100000 x
    have h4 : x * (100000 / x + 1) ≤ x * o := Int.mul_le_mul_of_nonneg_left (by omega) (by omega)
    rw [Int.mul_add, Int.mul_one] at h4
    omega
  have h5 : 0 ≤ o * p := Int.mul_nonneg (by omega) hp
  have h6 : o * (p + x) = o * p + x * o := by rw [Int.mul_add, Int.mul_comm o x]
  unfold RefSum
  rw [h6]
  omega
theorem RefSum.small {o p sum x : Int} (h : RefSum o p sum) (hp : 0 ≤ p) (ho : 1 ≤ o) (hx : 1 ≤ x) (hs : sum < 100000) (hb : o ≤ 100000 / x) : RefSum o (p + x) (sum + o * x) ∧ 1 ≤ o * x ∧ o * x ≤ 100000 := by
  obtain ⟨h1, h2, h3⟩ := h
  have h4 : o * x ≤ 100000 := by
    have h5 : o * x ≤ 100000 / x * x := Int.mul_le_mul_of_nonneg_right hb (by omega)
    have h6 := Int.mul_ediv_add_emod 100000 x
    have h7 := Int.emod_nonneg 100000 (show x ≠ 0 by omega)
    rw [Int.mul_comm] at h6
    omega
  have h8 : 1 ≤ o * x := by
    have := Int.mul_le_mul ho hx (by omega) (by omega)
    omega
  have h6 : o * (p + x) = o * p + o * x := Int.mul_add _ _ _
  refine ⟨?_, h8, h4⟩
  unfold RefSum
  rw [h6]
  omega
theorem RefSum.full {o p sum t : Int} (h : RefSum o p sum) (ho : 1 ≤ o) (hs : 100000 ≤ sum) (ht : p ≤ t) : min 100000 sum = min 100000 (1 + o * t) := by
  obtain ⟨h1, h2, h3⟩ := h
  have h4 : o * p ≤ o * t := Int.mul_le_mul_of_nonneg_left ht (by omega)
  omega
/-- the program's round: sums and factors are cut at the bound -/
theorem cutProd {o p : Int} (ho : 1 ≤ o) (hp : 0 ≤ p) : min 100000 (1 + min 100000 p * min 100000 o) = min 100000 (1 + o * p) := by
  by_cases h0 : p = 0
  · subst h0
    rw [Int.mul_zero, Int.min_eq_right (show (0 : Int) ≤ 100000 by omega), Int.zero_mul]
  · by_cases h1 : p ≤ 100000
    · by_cases h2 : o ≤ 100000
      · rw [Int.min_eq_right h1, Int.min_eq_right h2, Int.mul_comm]
      · rw [Int.min_eq_right h1, Int.min_eq_left (show (100000 : Int) ≤ o by omega)]
        have h3 : (1 : Int) * 100000 ≤ p * 100000 := Int.mul_le_mul_of_nonneg_right (by omega) (by omega)
        have h4 : o * 1 ≤ o * p := Int.mul_le_mul_of_nonneg_left (by omega) (by omega)
        omega
    · rw [Int.min_eq_left (show (100000 : Int) ≤ p by omega)]
      have h3 : 1 * p ≤ o * p := Int.mul_le_mul_of_nonneg_right ho hp
      have h4 : (100000 : Int) * 1 ≤ 100000 * min 100000 o := Int.mul_le_mul_of_nonneg_left (by omega) (by omega)
      omega
noncomputable def treeB (K : List (List Int)) : Bool := @decide (TreeOk K) (Classical.propDecidable _)
theorem treeB_yes {K : List (List Int)} (h : TreeOk K) : treeB K = true := by unfold treeB; exact @decide_eq_true _ (Classical.propDecidable _) h
theorem treeB_no {K : List (List Int)} (h : ¬ TreeOk K) : treeB K = false := by unfold treeB; exact @decide_eq_false _ (Classical.propDecidable _) h
theorem treeB_ok {K : List (List Int)} (h : treeB K = true) : TreeOk K := by unfold treeB at h; exact @of_decide_eq_true _ (Classical.propDecidable _) h
/-- what RxSize returns -/
noncomputable def rxSz (L : List NdV) : Int := if treeB (L.map fun v => v.2.2.2.2.2) = true then (sizesL L).getD (L.length - 1) 0 else 0
end Go.Proofs.YtpolpihgclemnaaDoor

/-
  Plain facts on the parts of a text between all places of another one (Lib.split), as the reference finds them. No program here. No condition.
-/
import Derived.Test.YtnleemcddhpanaaDoorVal
import Derived.Lib.Split
import Derived.Lib.SplitLaws
import Derived.Lib.CountLaws
import Derived.Lib.IndexLaws
namespace Go.Proofs.YtnleemcddhpanaaDoor

theorem split_miss {l sep : List UInt8} (h : Lib.index l sep = -1) : Lib.split l sep = [l] := by
  unfold Lib.split; rw [Lib.count_miss h]; rfl
theorem split_hit {l sep : List UInt8} {i : Nat} (hs : sep ≠ []) (h : Lib.index l sep = i) : Lib.split l sep = l.take i :: Lib.split (l.drop (i + sep.length)) sep := by
  have e : (Lib.index l sep).toNat = i := by omega
  have hm : ¬ (Lib.index l sep == -1) = true := fun e => by have := beq_iff_eq.1 e; omega
  unfold Lib.split
  rw [Lib.count_hit hs h, Nat.add_comm 1, Lib.splitK, if_neg hm, e]
  rfl
/-- where the reference stands: what it has found, and no place of sep between its two marks -/
def SplitAt (l sep : List UInt8) (done : List (List UInt8)) (fr i : Nat) : Prop :=
  fr ≤ i ∧ i ≤ l.length ∧ Lib.split l sep = done ++ Lib.split (l.drop fr) sep ∧ Lib.NoOcc (l.drop fr) sep (i - fr)
theorem splitAt_zero (l sep : List UInt8) : SplitAt l sep [] 0 0 := ⟨Nat.le_refl _, Nat.zero_le _, by simp, Lib.NoOcc.zero _ _⟩
theorem occ_at {l sep : List UInt8} {fr i : Nat} (h : fr ≤ i) (hr : i + sep.length ≤ l.length) : Lib.occAt (l.drop fr) sep (i - fr) = ((l.drop i).take sep.length == sep) := by
  rw [Lib.occAt_iff_take _ _ _ (by rw [List.length_drop]; omega), List.drop_drop, show fr + (i - fr) = i by omega]
theorem splitAt_hit {l sep : List UInt8} {done : List (List UInt8)} {fr i : Nat} (h : SplitAt l sep done fr i) (hs : sep ≠ []) (hr : i + sep.length ≤ l.length) (ho : (l.drop i).take sep.length = sep) :
    SplitAt l sep (done ++ [(l.take i).drop fr]) (i + sep.length) (i + sep.length) := by
  obtain ⟨h1, h2, h3, h4⟩ := h
  refine ⟨Nat.le_refl _, hr, ?_, by rw [Nat.sub_self]; exact Lib.NoOcc.zero _ _⟩
  have hidx : Lib.index (l.drop fr) sep = ((i - fr : Nat) : Int) := Lib.index_hit h4 (by rw [List.length_drop]; omega) (by rw [occ_at h1 hr, ho]; simp)
  rw [h3, split_hit hs hidx, List.drop_drop, show fr + (i - fr + sep.length) = i + sep.length by omega, List.append_assoc]
  have e : (l.drop fr).take (i - fr) = (l.take i).drop fr := by rw [List.drop_take]
  rw [e]
  rfl
theorem splitAt_no {l sep : List UInt8} {done : List (List UInt8)} {fr i : Nat} (h : SplitAt l sep done fr i) (hs : sep ≠ []) (hr : i + sep.length ≤ l.length) (ho : ¬ (l.drop i).take sep.length = sep) :
    SplitAt l sep done fr (i + 1) := by
  obtain ⟨h1, h2, h3, h4⟩ := h
  have hl : 0 < sep.length := List.length_pos_iff.2 hs
  refine ⟨by omega, by omega, h3, ?_⟩
  rw [show i + 1 - fr = (i - fr) + 1 by omega]
  exact h4.succ (by rw [occ_at h1 hr]; simpa using ho)
theorem splitAt_end {l sep : List UInt8} {done : List (List UInt8)} {fr i : Nat} (h : SplitAt l sep done fr i) (hs : sep ≠ []) (hr : l.length < i + sep.length) :
    Lib.split l sep = done ++ [l.drop fr] := by
  obtain ⟨h1, h2, h3, h4⟩ := h
  rw [h3, split_miss (Lib.index_past hs h4 (by rw [List.length_drop]; omega))]
theorem splitB_split (s sep : ByteArray) : Lib.splitB sep 0 (Lib.countB s sep) s = (Lib.split (bs s) (bs sep)).map ofL := by
  have h := Lib.splitB_data sep 0 (Lib.countB s sep) s
  have e : (Lib.splitB sep 0 (Lib.countB s sep) s).map bs = Lib.split (bs s) (bs sep) := h
  rw [← e, List.map_map]
  have e2 : (ofL ∘ bs) = (id : ByteArray → ByteArray) := funext fun t => ofL_bs t
  rw [e2, List.map_id]
end Go.Proofs.YtnleemcddhpanaaDoor

/-
  The contract of so many noughts, the reference's. Condition: no more than 2 to the 39.
-/
import Derived.Test.YtjjpdoabagnmoaaDoorRounds
import Derived.Test.YtjjpdoabagnmoaaDoorFill
namespace Go.Proofs.YtjjpdoabagnmoaaDoor
open Go.RowKit
set_option linter.unusedVariables false
set_option linter.unusedSimpArgs false

theorem l02Zeros_any (n : Nat) (w : World) (hn : n ≤ 549755813888) :
    Calls Tryd.prog 102 #[.int .i64 (n : Int)] w fun e w' => e = .returned (.string (ofL (zs n))) ∧ Below w.heap.size w w' := by
  obtain ⟨i0, hinf, hy0, hy1, hy2⟩ := info_parts infoByte
  go_enter Tryd.func102, Tryd.ntmps102
  go_wp2
  go_loopw [3, 4] (fun v i wr => ∃ (k g cap : Nat), k ≤ n ∧ i = .int .i64 k ∧ v = .slice (some ⟨g, 0, none⟩) k cap ∧ wr.ownsRow w.heap.size 5 1 (.slice (some ⟨g, 0, none⟩) k cap) k ((zs k).map byteV) ∧ Below w.heap.size w wr) (fun _ i _ => n - (intOf i).toNat)
  case atStart =>
    exact ⟨0, w.heap.size, 0, Nat.zero_le _, rfl, rfl, ownsRow_empty _ _ _ (Nat.le_refl _), (Below.refl _ _).alloc (Nat.le_refl _) _⟩
  case round =>
    obtain ⟨k, g, cap, hk, rfl, rfl, hown, hb⟩ := hrel
    have HOW := Lib.hid hown
    have HBW := Lib.hid hb
    have hlow := hb.size
    clear hown hb
    by_cases hlt : k < n
    · go_wp2_with (at_builtin; refine wpList_append_own _ rfl _ _ 29 rfl w.heap.size 5 i0 (.int .u8 0) 1 1 Tryd.underlying29 hinf hy0 hy1 hy2 rfl (by decide) _ _ _ rfl (HOW.out.alloc _) ⟨wr.heap.size, 0, none⟩ 1 1 [.int .u8 48] rfl rfl (ownsRow_news (ownsRow_one wr w.heap.size 5 _ hlow)) (fun u hu => by simp at hu; subst hu; rfl) (by unfold maxLen; omega) (by omega) (by simp; omega) ?_; intro v2 w2 hown2 hgr2 hnil2)
      obtain ⟨g2, cap2, rfl, hg2, hg2'⟩ := ownsRow_some hown2 (by omega)
      have hbz : Below w.heap.size w w2 := Below.grown (HBW.out.alloc hlow _) hgr2 (by simp; omega) (ownBlock_lo HOW.out)
      refine ⟨⟨k + 1, g2, cap2, by omega, by go_num, rfl, ?_, hbz⟩, by simp [intOf]; omega⟩
      rw [zs_succ, List.map_append]
      exact hown2
    · obtain rfl : k = n := by omega
      have hconv := textOfOwned HOW.out
      go_wp2
      go_ret
      exact ⟨rfl, HBW.out⟩
end Go.Proofs.YtjjpdoabagnmoaaDoor

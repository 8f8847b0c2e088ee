/-
  strings.NewReplacer at eight strings. Condition: the strings stand in memory.
-/
import Derived.Test.YtobpecgecopdnaaGreatDoorMost
import Derived.Test.YtobpecgecopdnaaGreatDoorFill
namespace Go.Proofs.YtobpecgecopdnaaGreatDoor
open Go.RowKit
set_option linter.unusedVariables false
set_option linter.unusedSimpArgs false

theorem infoStrR : (Tryz.prog.info? 9).map (fun i => (i.zero, i.size, i.bytes)) = some (some (.string .empty), 1, 16) := by kernel_rfl
set_option maxRecDepth 20000 in
set_option maxHeartbeats 1000000 in
theorem newReplacer_any (g : Nat) (xs : List Value) (w : World) (hx : xs.length = 8) (hc : ∀ j u, xs[j]? = some u → w.cell? ((⟨g, 0, none⟩ : Addr).add j) = some u) (h1 : ∀ u ∈ xs, u.oneCell' = true) :
    Calls Tryz.prog 25 #[.slice (some ⟨g, 0, none⟩) 8 8] w fun e w' => ∃ (b h c : Nat), e = .returned (.pointer (some ⟨b, 0, none⟩)) ∧ Below w.heap.size w w' ∧ w.heap.size ≤ b ∧ b ≠ h ∧ w'.ownsRow w.heap.size 9 1 (.slice (some ⟨h, 0, none⟩) 8 c) 8 xs ∧
      w'.heap[b]? = some (.cells #[.int .u32 0, .int .i32 0, .int .u32 0, .nilIface, .slice (some ⟨h, 0, none⟩) 8 c] 80 (0, 0)) := by
  obtain ⟨is, his, hsz0, hsz1, hsz2⟩ := info_parts infoStrR
  have HN := Lib.hid (World.ownsRow_nil w w.heap.size 9 1)
  have HL := Lib.hid hx
  have HC := Lib.hid hc
  have H1 := Lib.hid h1
  clear hx hc h1
  go_enter Tryz.func25, Tryz.ntmps25
  go_wp2_with (at_builtin; refine wpList_append_own _ rfl _ _ 31 rfl w.heap.size 9 is (.string .empty) 1 16 Tryz.underlying31 his hsz0 hsz1 hsz2 rfl (by decide) _ _ _ rfl HN.out ⟨g, 0, none⟩ 8 8 xs rfl HL.out HC.out H1.out (by unfold maxLen; omega) (by omega) (Nat.le_refl _) ?_; intro v2 w2 hown2 hgr2 hnil2; clear hnil2; obtain ⟨a2, c2, rfl⟩ := ownsRow_slice hown2; obtain ⟨h, c, hv, hlo, hlt⟩ := ownsRow_some hown2 (by omega); simp only [Value.slice.injEq, true_and] at hv; obtain ⟨rfl, rfl⟩ := hv; have HO2 := Lib.hid hown2; have HB2 := Lib.hid (Below.grown (Below.refl w.heap.size w) hgr2 (Nat.le_refl _) (fun x hx => by cases hx)); clear hown2 hgr2)
  go_ret
  have hlt2 := (HO2.out.lt h rfl).2
  exact ⟨w2.heap.size, h, c2, rfl, HB2.out.alloc HB2.out.size _, HB2.out.size, by omega, HO2.out.alloc _, Array.getElem?_push_size⟩
end Go.Proofs.YtobpecgecopdnaaGreatDoor

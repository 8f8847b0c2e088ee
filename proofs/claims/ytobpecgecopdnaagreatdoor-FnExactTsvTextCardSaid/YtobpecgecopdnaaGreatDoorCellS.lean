/-
  The contract of the reference's CellText. Conditions: bounds.
-/
import Derived.Test.YtobpecgecopdnaaGreatDoorCellL
import Derived.Test.YtobpecgecopdnaaGreatDoorTextOk
import Derived.Test.YtobpecgecopdnaaGreatDoorTxtAny
import Derived.Test.YtobpecgecopdnaaGreatDoorOwns
import Derived.Test.YtobpecgecopdnaaGreatDoorFill
import Derived.Test.YtobpecgecopdnaaGreatDoorCodes
namespace Go.Proofs.YtobpecgecopdnaaGreatDoor
open Go.RowKit
open Go.Lib hiding intOf
set_option linter.unusedVariables false
set_option linter.unusedSimpArgs false

theorem cells_new (w : World) (xs : List Value) (t : TypeId) (h : xs.length ≤ 100) : ∀ j u, xs[j]? = some u → (w.alloc (.cells xs.toArray t)).cell? ((⟨w.heap.size, 0, none⟩ : Addr).add j) = some u :=
  ownsRow_news (World.ownsRow_lit (base := w.heap.size) (e := t) (size := 1) w xs.toArray xs.length (Nat.le_refl _) (by unfold maxLen; omega) (by simp))
theorem okT_small {s : ByteArray} (h : okT (bs s) = true) : s.size ≤ 1000 := by
  have := (okT_enc h).2.2
  rwa [bs_length] at this
/-- what CellText gives -/
def clT (l : List UInt8) : List UInt8 := if okT l = true then clL l else []
theorem clT_yes {l : List UInt8} (h : okT l = true) : clT l = clL l := by unfold clT; rw [if_pos h]
theorem clT_no {l : List UInt8} (h : okT l = false) : clT l = [] := by unfold clT; rw [if_neg (by rw [h]; simp)]

set_option maxRecDepth 10000 in
set_option maxHeartbeats 2000000 in
theorem specCellText_any (s : ByteArray) (w0 : World) (hs : s.size ≤ 1099511627776) :
    Calls Tryz.prog 11 #[.string s] w0 fun e w' => e = .returned (.string (ofL (clT (bs s)))) ∧ Below w0.heap.size w0 w' := by
  obtain ⟨i0, hi, hz0, hz1, hz2⟩ := info_parts infoByte
  go_enter Tryz.func11, Tryz.ntmps11
  go_wp2_with fail
  refine (specTextOk_any s _ hs).mono ?_
  rintro e w ⟨rfl, hb1⟩
  have HB1 := Lib.hid hb1
  clear hb1
  cases hk : okT (bs s)
  · have HE := Lib.hid (clT_no hk)
    go_wp2
    go_ret
    rw [HE.out]
    exact ⟨rfl, HB1.out⟩
  · have HE := Lib.hid (clT_yes hk)
    have hl := okT_small hk
    clear hk
    go_wp2
    go_loopw [3, 4] (fun v i wr => ∃ j : Nat, j ≤ s.size ∧ i = .int .i64 j ∧ wr.ownsRow w.heap.size 5 1 v (clL ((bs s).take j)).length ((clL ((bs s).take j)).map byteV) ∧ Below w.heap.size w wr ∧ w.heap.size < wr.heap.size) (fun _ i _ => s.size - (intOf i).toNat)
    case atStart => exact ⟨0, Nat.zero_le _, rfl, ownsRow_empty _ _ _ (Nat.le_refl _), (Below.refl _ _).alloc (Nat.le_refl _) _, by simp⟩
    case round =>
      obtain ⟨j, hj, rfl, hown, hb, hsz⟩ := hrel
      have HB := Lib.hid hb
      have hlen := clL_length ((bs s).take j)
      rw [List.length_take, bs_length] at hlen
      by_cases hlt : j < s.size
      · have htk := clL_take (bs s) j (by rw [bs_length]; exact hlt)
        rw [bs_get s j hlt] at htk
        obtain ⟨x, hx⟩ : ∃ x, s[j] = x := ⟨_, rfl⟩
        rw [hx] at htk
        have hx' : s[j] = x := hx
        obtain ⟨q, hq⟩ : ∃ q, (clL ((bs s).take j)).length = q := ⟨_, rfl⟩
        rw [hq] at hlen hown
        have HL := Lib.hid hq
        have HOW := Lib.hid hown
        have HTK := Lib.hid htk
        clear htk hx hown hq hb
        by_cases c0 : (x.toNat : Int) = 9
        · have HQ := Lib.hid (show clB x = [92, 116] by unfold clB; rw [if_pos (by omega)])
          go_wp2_with (at_builtin; refine wpList_append_own _ rfl _ _ 35 rfl w.heap.size 5 i0 (.int .u8 0) 1 1 Tryz.underlying35 hi hz0 hz1 hz2 rfl (by decide) _ _ _ rfl (HOW.out.alloc _) ⟨wr.heap.size, 0, none⟩ 2 2 [.int .u8 92, .int .u8 116] rfl rfl (cells_new _ _ _ (by simp)) (fun u hu => by simp at hu; first | (subst hu; rfl) | (rcases hu with rfl | rfl <;> rfl)) (by unfold maxLen; omega) (by omega) (by first | omega | (simp; omega) | simp) ?_; intro v2 w2 hown2 hgr2 hnil2)
          have hbz : Below w.heap.size w w2 := Below.grown (HB.out.alloc HB.out.size _) hgr2 (by simp; omega) (ownBlock_lo HOW.out)
          have hsz2 : w.heap.size < w2.heap.size := by have := hgr2.size; simp at this; omega
          refine ⟨⟨j + 1, by omega, by go_num, ?_, hbz, hsz2⟩, by simp [intOf]; omega⟩
          rw [HTK.out, HQ.out, List.length_append, List.map_append, HL.out]
          exact hown2
        by_cases c1 : (x.toNat : Int) = 10
        · have HQ := Lib.hid (show clB x = [92, 110] by unfold clB; rw [if_neg (by omega)]; rw [if_pos (by omega)])
          go_wp2_with (at_builtin; refine wpList_append_own _ rfl _ _ 35 rfl w.heap.size 5 i0 (.int .u8 0) 1 1 Tryz.underlying35 hi hz0 hz1 hz2 rfl (by decide) _ _ _ rfl (HOW.out.alloc _) ⟨wr.heap.size, 0, none⟩ 2 2 [.int .u8 92, .int .u8 110] rfl rfl (cells_new _ _ _ (by simp)) (fun u hu => by simp at hu; first | (subst hu; rfl) | (rcases hu with rfl | rfl <;> rfl)) (by unfold maxLen; omega) (by omega) (by first | omega | (simp; omega) | simp) ?_; intro v2 w2 hown2 hgr2 hnil2)
          have hbz : Below w.heap.size w w2 := Below.grown (HB.out.alloc HB.out.size _) hgr2 (by simp; omega) (ownBlock_lo HOW.out)
          have hsz2 : w.heap.size < w2.heap.size := by have := hgr2.size; simp at this; omega
          refine ⟨⟨j + 1, by omega, by go_num, ?_, hbz, hsz2⟩, by simp [intOf]; omega⟩
          rw [HTK.out, HQ.out, List.length_append, List.map_append, HL.out]
          exact hown2
        by_cases c2 : (x.toNat : Int) = 13
        · have HQ := Lib.hid (show clB x = [92, 114] by unfold clB; rw [if_neg (by omega)]; rw [if_neg (by omega)]; rw [if_pos (by omega)])
          go_wp2_with (at_builtin; refine wpList_append_own _ rfl _ _ 35 rfl w.heap.size 5 i0 (.int .u8 0) 1 1 Tryz.underlying35 hi hz0 hz1 hz2 rfl (by decide) _ _ _ rfl (HOW.out.alloc _) ⟨wr.heap.size, 0, none⟩ 2 2 [.int .u8 92, .int .u8 114] rfl rfl (cells_new _ _ _ (by simp)) (fun u hu => by simp at hu; first | (subst hu; rfl) | (rcases hu with rfl | rfl <;> rfl)) (by unfold maxLen; omega) (by omega) (by first | omega | (simp; omega) | simp) ?_; intro v2 w2 hown2 hgr2 hnil2)
          have hbz : Below w.heap.size w w2 := Below.grown (HB.out.alloc HB.out.size _) hgr2 (by simp; omega) (ownBlock_lo HOW.out)
          have hsz2 : w.heap.size < w2.heap.size := by have := hgr2.size; simp at this; omega
          refine ⟨⟨j + 1, by omega, by go_num, ?_, hbz, hsz2⟩, by simp [intOf]; omega⟩
          rw [HTK.out, HQ.out, List.length_append, List.map_append, HL.out]
          exact hown2
        by_cases c3 : (x.toNat : Int) = 92
        · have HQ := Lib.hid (show clB x = [92, 92] by unfold clB; rw [if_neg (by omega)]; rw [if_neg (by omega)]; rw [if_neg (by omega)]; rw [if_pos (by omega)])
          go_wp2_with (at_builtin; refine wpList_append_own _ rfl _ _ 35 rfl w.heap.size 5 i0 (.int .u8 0) 1 1 Tryz.underlying35 hi hz0 hz1 hz2 rfl (by decide) _ _ _ rfl (HOW.out.alloc _) ⟨wr.heap.size, 0, none⟩ 2 2 [.int .u8 92, .int .u8 92] rfl rfl (cells_new _ _ _ (by simp)) (fun u hu => by simp at hu; first | (subst hu; rfl) | (rcases hu with rfl | rfl <;> rfl)) (by unfold maxLen; omega) (by omega) (by first | omega | (simp; omega) | simp) ?_; intro v2 w2 hown2 hgr2 hnil2)
          have hbz : Below w.heap.size w w2 := Below.grown (HB.out.alloc HB.out.size _) hgr2 (by simp; omega) (ownBlock_lo HOW.out)
          have hsz2 : w.heap.size < w2.heap.size := by have := hgr2.size; simp at this; omega
          refine ⟨⟨j + 1, by omega, by go_num, ?_, hbz, hsz2⟩, by simp [intOf]; omega⟩
          rw [HTK.out, HQ.out, List.length_append, List.map_append, HL.out]
          exact hown2
        have HQ := Lib.hid (show clB x = [x] by unfold clB; rw [if_neg (by omega)]; rw [if_neg (by omega)]; rw [if_neg (by omega)]; rw [if_neg (by omega)])
        go_wp2_with (at_builtin; refine wpList_append_own _ rfl _ _ 35 rfl w.heap.size 5 i0 (.int .u8 0) 1 1 Tryz.underlying35 hi hz0 hz1 hz2 rfl (by decide) _ _ _ rfl (HOW.out.alloc _) ⟨wr.heap.size, 0, none⟩ 1 1 [.int .u8 (x.toNat : Int)] rfl rfl (cells_new _ _ _ (by simp)) (fun u hu => by simp at hu; first | (subst hu; rfl) | (rcases hu with rfl | rfl <;> rfl)) (by unfold maxLen; omega) (by omega) (by first | omega | (simp; omega) | simp) ?_; intro v2 w2 hown2 hgr2 hnil2)
        have hbz : Below w.heap.size w w2 := Below.grown (HB.out.alloc HB.out.size _) hgr2 (by simp; omega) (ownBlock_lo HOW.out)
        have hsz2 : w.heap.size < w2.heap.size := by have := hgr2.size; simp at this; omega
        refine ⟨⟨j + 1, by omega, by go_num, ?_, hbz, hsz2⟩, by simp [intOf]; omega⟩
        rw [HTK.out, HQ.out, List.length_append, List.map_append, HL.out]
        exact hown2
      · obtain rfl : j = s.size := by omega
        rw [take_all] at hlen hown
        have HOW := Lib.hid hown
        have hconv := textOfAny hown
        clear hown hb
        go_wp2
        go_ret
        rw [HE.out]
        exact ⟨rfl, HB1.out.trans (HB.out.mono HB1.out.size)⟩
end Go.Proofs.YtobpecgecopdnaaGreatDoor

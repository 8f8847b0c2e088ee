/-
  The contracts of l01Text (code points' bytes), l01Cased and shifted (letters that are turned, code point by code point or byte by byte). Conditions: the string is no longer than 2 to the 40; the tables of unicode utf8 stand in memory.
-/
import Derived.Test.YtpolpihgclemnaaDoorCodes
import Derived.Test.YtpolpihgclemnaaDoorTxtAny
import Derived.Test.YtpolpihgclemnaaDoorBytes
import Derived.Test.YtpolpihgclemnaaDoorFill
import Derived.Test.YtpolpihgclemnaaDoorTextOk
import Derived.Laws.OwnMore
import Derived.Lib.BufferRead
import Derived.Lib.ConvBytes
namespace Go.Proofs.YtpolpihgclemnaaDoor
open Go.RowKit
open Go.Lib hiding intOf
set_option linter.unusedVariables false
set_option linter.unusedSimpArgs false

set_option maxHeartbeats 1000000 in
theorem l01Text_any (B : Nat) (v : Value) (n : Nat) (r : List Nat) (w : World) (h : w.ownsRow B 3 1 v n (r.map intV)) (hpt : ∀ c ∈ r, isPt (c : Int) = true) (hn : n ≤ 1048576) :
    Calls Tryd.prog 19 #[v] w fun e w' => e = .returned (.string (ofL (enc r))) ∧ Below w.heap.size w w' := by
  obtain ⟨i0, hi, hz0, hz1, hz2⟩ := info_parts infoByte
  obtain ⟨a, cap, rfl⟩ := ownsRow_slice h
  have hrl : r.length = n := by simpa using h.1
  have HO := Lib.hid h
  have HPT := Lib.hid hpt
  have HRL := Lib.hid hrl
  clear h hpt hrl
  go_enter Tryd.func19, Tryd.ntmps19
  go_wp2
  go_loopw [3, 4] (fun v i wr => ∃ (j : Nat), j ≤ n ∧ i = .int .i64 j ∧ wr.ownsRow w.heap.size 5 1 v (enc (r.take j)).length ((enc (r.take j)).map byteV) ∧ Below w.heap.size w wr ∧ w.heap.size < wr.heap.size) (fun _ i _ => n - (intOf i).toNat)
  case atStart => exact ⟨0, Nat.zero_le _, rfl, ownsRow_empty _ _ _ (Nat.le_refl _), (Below.refl _ _).alloc (Nat.le_refl _) _, by simp⟩
  case round =>
    obtain ⟨j, hj, rfl, hown, hb, hsz⟩ := hrel
    have HB := Lib.hid hb
    have HOW := Lib.hid hown
    have HR := Lib.hid (ownsRow_below HO.out hb)
    clear hb hown
    by_cases hlt : j < n
    · have hjr : j < r.length := by rw [HRL.out]; exact hlt
      obtain ⟨g, cap', hv, hg, hg2⟩ := ownsRow_some HR.out (by omega)
      simp only [Value.slice.injEq, true_and] at hv
      obtain ⟨rfl, rfl⟩ := hv
      have hc := HR.out.cellAt j (by omega)
      rw [List.getElem?_map, List.getElem?_eq_getElem hjr] at hc
      have hpc := HPT.out _ (List.getElem_mem hjr)
      have hsuc := enc_take_succ hjr
      obtain ⟨c, hcc⟩ : ∃ c, r[j] = c := ⟨_, rfl⟩
      rw [hcc] at hc hpc hsuc
      have HPC := Lib.hid hpc
      have HSUC := Lib.hid hsuc
      have hl := (enc_length (r.take j)).2
      rw [List.length_take] at hl
      have hp4 := ptBytes_pos c
      have hpl : (runeCells (c : Int)).length = (ptBytes c).length := by rw [← pt_cells, List.length_map]
      obtain ⟨m, hm⟩ : ∃ m, (ptBytes c).length = m := ⟨_, rfl⟩
      rw [hm] at hp4 hpl
      have HM := Lib.hid hm
      clear hpc hsuc hcc hm
      go_wp2_with fail
      refine (l01Bytes_any (c : Int) HPC.out _).mono ?_
      rintro e w1 ⟨rfl, rfl⟩
      rw [hpl]
      have hnew : (wr.alloc (.cells (runeCells (c : Int)).toArray 5)).ownsRow w.heap.size 5 1 (.slice (some ⟨wr.heap.size, 0, none⟩) m m) m ((ptBytes c).map byteV) := by
        have h := World.ownsRow_lit (base := w.heap.size) (e := 5) (size := 1) wr (runeCells (c : Int)).toArray m HB.out.size (by unfold maxLen; omega) (by simp [hpl])
        rw [pt_cells]
        simpa using h
      have HNEW := Lib.hid (ownsRow_news hnew)
      clear hnew
      go_wp2_with (at_builtin; refine wpList_append_own _ rfl _ _ 56 rfl w.heap.size 5 i0 (.int .u8 0) 1 1 Tryd.underlying56 hi hz0 hz1 hz2 rfl (by decide) _ _ _ rfl (HOW.out.alloc _) ⟨wr.heap.size, 0, none⟩ m m ((ptBytes c).map byteV) rfl (by simp [HM.out]) HNEW.out byteV_one (by unfold maxLen; omega) (by omega) (by simp; omega) ?_; intro v2 w2 hown2 hgr2 hnil2)
      have hbz : Below w.heap.size w w2 := Below.grown (HB.out.alloc HB.out.size _) hgr2 (by simp; omega) (ownBlock_lo HOW.out)
      have hsz2 : w.heap.size < w2.heap.size := by have := hgr2.size; simp at this; omega
      refine ⟨⟨j + 1, by omega, by go_num, ?_, hbz, hsz2⟩, by simp [intOf]; omega⟩
      rw [HSUC.out, List.length_append, List.map_append, HM.out]
      exact hown2
    · obtain rfl : j = n := by omega
      have hall : r.take j = r := List.take_of_length_le (by rw [HRL.out]; exact Nat.le_refl _)
      rw [hall] at HOW
      have hconv := textOfAny HOW.out
      go_wp2
      go_ret
      exact ⟨rfl, HB.out⟩

/-- letters of a text turned; nothing of what is no text -/
def casedL (lo b : Int) (l : List UInt8) : List UInt8 := if okT l = true then l.map (shB lo b) else []
/-- the first j turned, the others not -/
def mixL {α : Type} (f : α → α) (r : List α) (j : Nat) : List α := (r.take j).map f ++ r.drop j
theorem mixL_zero {α : Type} (f : α → α) (r : List α) : mixL f r 0 = r := by simp [mixL]
theorem mixL_all {α : Type} (f : α → α) (r : List α) : mixL f r r.length = r.map f := by simp [mixL]
theorem mixL_get {α : Type} (f : α → α) (r : List α) (j : Nat) (h : j < r.length) : (mixL f r j)[j]? = some r[j] := by
  unfold mixL
  rw [List.getElem?_append_right (by rw [List.length_map, List.length_take]; omega), List.length_map, List.length_take, Nat.min_eq_left (by omega), Nat.sub_self, List.getElem?_drop, Nat.add_zero, List.getElem?_eq_getElem h]
theorem mixL_cons {α : Type} (f : α → α) (r : List α) (j : Nat) (h : j < r.length) : mixL f r j = (r.take j).map f ++ r[j] :: r.drop (j + 1) := by
  unfold mixL; rw [List.drop_eq_getElem_cons h]
theorem mixL_succ {α : Type} (f : α → α) (r : List α) (j : Nat) (h : j < r.length) : mixL f r (j + 1) = (r.take j).map f ++ f r[j] :: r.drop (j + 1) := by
  unfold mixL; rw [List.take_succ_eq_append_getElem h, List.map_append, List.append_assoc]; rfl
theorem mixL_same {α : Type} (f : α → α) (r : List α) (j : Nat) (h : j < r.length) (e : f r[j] = r[j]) : mixL f r j = mixL f r (j + 1) := by
  rw [mixL_cons f r j h, mixL_succ f r j h, e]
theorem mixL_set {α β : Type} (g : α → β) (f : α → α) (r : List α) (j : Nat) (h : j < r.length) : ((mixL f r j).map g).set j (g (f r[j])) = (mixL f r (j + 1)).map g := by
  rw [mixL_cons f r j h, mixL_succ f r j h, List.map_append, List.map_append, List.map_cons, List.map_cons]
  rw [List.set_append_right _ _ (by rw [List.length_map, List.length_map, List.length_take]; omega)]
  simp [Nat.min_eq_left (Nat.le_of_lt h)]
theorem mixL_length {α : Type} (f : α → α) (r : List α) (j : Nat) (h : j ≤ r.length) : (mixL f r j).length = r.length := by
  unfold mixL; rw [List.length_append, List.length_map, List.length_take, List.length_drop]; omega


end Go.Proofs.YtpolpihgclemnaaDoor

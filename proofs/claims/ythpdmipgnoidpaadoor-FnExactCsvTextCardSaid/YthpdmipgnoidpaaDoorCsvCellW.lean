/-
  The contracts of the functions that write a cell: the program's csvCell, the reference's l09Cell; and of the program's CsvText. Conditions: bounds; the tables of unicode utf8 stand in memory; the library's MaxLen holds an int.
-/
import Derived.Test.YthpdmipgnoidpaaDoorContainsAny
import Derived.Test.YthpdmipgnoidpaaDoorRowsTxt
import Derived.Lib.Replace
import Derived.Lib.ReplaceLaws
import Derived.Lib.SplitLaws
import Derived.Lib.IndexBytes
namespace Go.Proofs.YthpdmipgnoidpaaDoor
open Go.RowKit
open Go.Lib hiding intOf
set_option linter.unusedVariables false
set_option linter.unusedSimpArgs false

/-- the library's MaxLen holds an int -/
def MaxCell (w : World) : Prop := ∃ m : Int, w.cell? ⟨2, 0, none⟩ = some (.int .i64 m)
theorem MaxCell.below {w w' : World} (h : MaxCell w) (hb : Below w.heap.size w w') : MaxCell w' := by
  obtain ⟨m, hm⟩ := h
  obtain ⟨c, -⟩ := bcell hb
  exact ⟨m, by rw [c _ _ (cell_lt hm)]; exact hm⟩
theorem max_of {w : World} (h : w.ShapedOpen Tryd.prog) : MaxCell w := Tryd.laysM143.s1_3 w h
theorem byte_split (c : UInt8) : ∀ l : List UInt8, (Lib.indexByte l c = -1 ∧ c ∉ l) ∨ ∃ pre post, l = pre ++ c :: post ∧ c ∉ pre ∧ Lib.indexByte l c = (pre.length : Int)
  | [] => .inl ⟨rfl, by simp⟩
  | x :: l => by
    by_cases h : x = c
    · subst h
      exact .inr ⟨[], l, rfl, by simp, by simp [Lib.indexByte]⟩
    · rcases byte_split c l with ⟨h1, h2⟩ | ⟨pre, post, rfl, h2, h3⟩
      · exact .inl ⟨by simp [Lib.indexByte, h, h1], by simp [h2, Ne.symm h]⟩
      · refine .inr ⟨x :: pre, post, rfl, by simp [h2, Ne.symm h], ?_⟩
        have h4 : ((pre.length : Int) == -1) = false := by rw [beq_eq_false_iff_ne]; omega
        have h5 : (x == c) = false := by rw [beq_eq_false_iff_ne]; exact h
        rw [Lib.indexByte, h3, h4, h5]
        simp
theorem dblL_append (a b : List UInt8) : dblL (a ++ b) = dblL a ++ dblL b := by simp [dblL]
theorem replaceK_dbl : ∀ (k : Nat) (l : List UInt8), l.count 34 ≤ k → Lib.replaceK [34] [34, 34] k l = dblL l
  | 0, l, h => by
    have h0 : 34 ∉ l := fun hm => by have := List.count_pos_iff.2 hm; omega
    rw [dblL_none h0]; rfl
  | k + 1, l, h => by
    rcases byte_split 34 l with ⟨h1, h2⟩ | ⟨pre, post, rfl, h2, h3⟩
    · rw [Lib.replaceK, Lib.index_one, h1, dblL_none h2]; rfl
    · rw [Lib.replaceK_hit [34] [34, 34] k _ pre.length (by rw [Lib.index_one, h3])]
      have e1 : (pre ++ 34 :: post).take pre.length = pre := List.take_left
      have e2 : (pre ++ 34 :: post).drop (pre.length + ([34] : List UInt8).length) = post := by
        rw [← List.drop_drop, List.drop_left]; rfl
      rw [e1, e2, replaceK_dbl k post (by rw [List.count_append, List.count_cons_self] at h; omega), dblL_append, dblL_none h2]
      simp [dblL]
theorem replaceAll_dbl (l : List UInt8) : Lib.replaceAll l [34] [34, 34] = dblL l := by
  unfold Lib.replaceAll Lib.replace
  rw [if_neg (by decide)]
  exact replaceK_dbl _ l (by unfold Lib.replaceNum; rw [if_pos (.inl (by decide)), Lib.count_one]; exact Nat.le_refl _)
theorem cellC_no {l : List UInt8} (h : l.any spB = false) : cellC l = l := by unfold cellC; rw [if_neg (by rw [h]; simp)]
theorem cellC_yes {l : List UInt8} (h : l.any spB = true) : cellC l = 34 :: (dblL l ++ [34]) := by unfold cellC; rw [if_pos h]
theorem spChars : Asc ⟨#[44, 34, 10, 13]⟩ := by
  intro j b h
  rcases j with _ | _ | _ | _ | j
  all_goals (simp at h; try (subst h; decide))
theorem anyB_sp (s : ByteArray) : anyB s ⟨#[44, 34, 10, 13]⟩ = (bs s).any spB := by
  unfold anyB
  congr 1
  funext x
  show [44, 34, 10, 13].contains x = spB x
  rw [Bool.eq_iff_iff]
  simp [spB, or_assoc]

theorem csvCell_writes (w0 : World) (hM : MaxCell w0) : Writes 61 cellC w0 := by
  intro s w hok hb0
  have hs := okT_len hok
  have hmx := hM.below hb0
  have HCA := Lib.hid (containsAny_txt s ⟨#[44, 34, 10, 13]⟩ w hok spChars (by decide) (by decide))
  rw [anyB_sp] at HCA
  cases hsp : (bs s).any spB
  · have HE : Hid (ofL (cellC (bs s)) = s) := Lib.hid (by rw [cellC_no hsp]; exact bs_inj (by rw [bs_ofL]))
    rw [hsp] at HCA
    clear hok hM hmx hsp
    go_enter Tryd.func61, Tryd.ntmps61
    go_wp2_with fail
    refine HCA.out.mono ?_
    rintro e w1 ⟨rfl, hb⟩
    go_wp2
    go_ret
    rw [HE.out]
    exact ⟨rfl, hb⟩
  · rw [hsp] at HCA
    have HM := Lib.hid hmx
    have hcnt := Lib.countB_le ⟨#[34]⟩ (Nat.le_refl 1) s.size s (Nat.le_refl _)
    have HRA := Lib.hid (fun W (hb : Below w.heap.size w W) => (Tryd.strings_ReplaceAll s ⟨#[34]⟩ ⟨#[34, 34]⟩ (hmx.below hb).choose W (by omega) (hmx.below hb).choose_spec (Nat.le_refl 1) (by
      have h2 : (⟨#[34, 34]⟩ : ByteArray).size = 2 := rfl
      rw [h2]; omega)))
    have hra : Lib.replaceAll s.data.toList (⟨#[34]⟩ : ByteArray).data.toList (⟨#[34, 34]⟩ : ByteArray).data.toList = dblL (bs s) := replaceAll_dbl (bs s)
    rw [hra] at HRA
    have hdl := dblL_len (bs s)
    rw [bs_length] at hdl
    have HE : Hid (ByteArray.mk #[34] ++ ⟨(dblL (bs s)).toArray⟩ ++ ByteArray.mk #[34] = ofL (cellC (bs s))) := Lib.hid (by rw [cellC_yes hsp]; exact bs_inj (by simp [bs, ofL]))
    obtain ⟨t, ht⟩ : ∃ t, (⟨(dblL (bs s)).toArray⟩ : ByteArray) = t := ⟨_, rfl⟩
    have htz : t.size ≤ 2000 := by
      rw [← ht]
      show (dblL (bs s)).toArray.size ≤ 2000
      simp; omega
    rw [ht] at HRA HE
    clear hok hM hmx hsp hra hdl ht hcnt
    go_enter Tryd.func61, Tryd.ntmps61
    go_wp2_with fail
    refine HCA.out.mono ?_
    rintro e w1 ⟨rfl, hb⟩
    have HB := Lib.hid hb
    clear hb
    go_wp2_with fail
    refine (HRA.out _ HB.out).mono ?_
    rintro e w2 ⟨rfl, hb2⟩
    go_wp2
    go_ret
    rw [HE.out]
    exact ⟨rfl, HB.out.trans (hb2.mono HB.out.size)⟩
theorem implCsvText_any (a : Option Addr) (cap n : Nat) (Q : List RowQ) (w : World) (h : RowR w a Q) (hn : Q.length = n) (hl : n ≤ 1048576) (hq : ∀ q ∈ Q, q.l ≤ 1048576 ∧ ∀ s ∈ q.ss, s.size ≤ 1048576) (hT : Tabs w) (hM : MaxCell w) :
    Calls Tryd.prog 26 #[.slice a n cap] w fun e w' => e = .returned (.tuple #[.string (txS (rowsTx 44 cellC (ssOf Q))), .bool (txB (rowsTx 44 cellC (ssOf Q)))]) ∧ Below w.heap.size w w' := by
  have HA := Lib.hid (rowsText_any cellC cellC_len 44 a cap n Q w (csvCell_writes w hM) h hn hl hq hT)
  obtain ⟨x, hx⟩ : ∃ x, rowsTx 44 cellC (ssOf Q) = x := ⟨_, rfl⟩
  rw [hx] at HA ⊢
  clear hx h hn hl hq hT hM
  go_enter Tryd.func26, Tryd.ntmps26
  go_wp2_with fail
  refine HA.out.mono ?_
  rintro e w1 ⟨rfl, hb⟩
  go_wp2
  go_ret2
  exact ⟨rfl, hb⟩
end Go.Proofs.YthpdmipgnoidpaaDoor

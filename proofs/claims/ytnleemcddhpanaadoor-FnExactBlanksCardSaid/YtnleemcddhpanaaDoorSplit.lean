/-
  The contracts of l08Split and SplitText, the reference's and the program's: the parts of a text in a new row of strings. Conditions: as in the text on Runes; the library's MaxLen holds an int.
-/
import Derived.Test.YtnleemcddhpanaaDoorSplitL
import Derived.Test.YtnleemcddhpanaaDoorStrMarks
import Derived.Test.YtnleemcddhpanaaDoorTextOk
import Derived.Test.YtnleemcddhpanaaDoorShelf
import Derived.Shelf.Strings.Split
namespace Go.Proofs.YtnleemcddhpanaaDoor
open Go.RowKit
open Go.Lib hiding intOf
set_option linter.unusedVariables false
set_option linter.unusedSimpArgs false

/-- the library's MaxLen holds an int -/
def MaxCell (w : World) : Prop := ∃ m : Int, w.cell? ⟨2, 0, none⟩ = some (.int .i64 m)
theorem MaxCell.below {w w' : World} (h : MaxCell w) (hb : Below w.heap.size w w') : MaxCell w' := by
  obtain ⟨m, hm⟩ := h
  obtain ⟨c, -⟩ := bcell hb
  exact ⟨m, by rw [c _ _ (cell_lt hm)]; exact hm⟩
theorem max_of {w : World} (h : w.ShapedOpen Tryd.prog) : MaxCell w := Tryd.laysM143.s1_3 w h

/-- a row of the call's own that holds the strings L -/
def StrsPost (w : World) (L : List ByteArray) (e : Ending) (w' : World) : Prop :=
  ∃ v, e = .returned v ∧ w'.ownsRow w.heap.size 9 1 v L.length (L.map Value.string) ∧ Below w.heap.size w w'
theorem infoString : (Tryd.prog.info? 9).map (fun i => (i.zero, i.size, i.bytes)) = some (some (.string .empty), 1, 16) := by kernel_rfl
theorem ext_bs (s : ByteArray) (a b : Nat) : bs (s.extract a b) = ((bs s).take b).drop a := by
  show (s.extract a b).data.toList = _
  rw [Lib.extract_data]; simp [bs, List.drop_take]
theorem ext_ofL (s : ByteArray) (a b : Nat) : s.extract a b = ofL (((bs s).take b).drop a) := bs_inj (by rw [ext_bs, bs_ofL])
theorem str_yes {a b : ByteArray} (h : a = b) : (a.toList == b.toList) = true := by subst h; simp
theorem str_no {a b : ByteArray} (h : ¬ a = b) : (a.toList == b.toList) = false := by
  rw [beq_eq_false_iff_ne]
  intro e
  rw [Lib.toList_data, Lib.toList_data] at e
  exact h (bs_inj e)
def splS (s sep : ByteArray) : List ByteArray := (Lib.split (bs s) (bs sep)).map ofL

set_option maxRecDepth 10000 in
set_option maxHeartbeats 1000000 in
theorem l08Split_any (s sep : ByteArray) (w : World) (hs : s.size ≤ 1099511627) (h1 : 1 ≤ sep.size) (hsep : sep.size ≤ 1099511627) :
    Calls Tryd.prog 52 #[.string s, .string sep] w (StrsPost w (splS s sep)) := by
  obtain ⟨i0, hi, hz0, hz1, hz2⟩ := info_parts infoString
  have hne := ne_nil (s := sep) (by omega)
  have HNE := Lib.hid hne
  clear hne
  go_enter Tryd.func52, Tryd.ntmps52
  go_wp2
  go_loopw [5, 6, 7] (fun v f i wr => ∃ (j fr : Nat) (done : List (List UInt8)), j ≤ s.size ∧ fr ≤ j ∧ done.length ≤ j ∧ i = .int .i64 j ∧ f = .int .i64 fr ∧ wr.ownsRow w.heap.size 9 1 v done.length ((done.map ofL).map Value.string) ∧ SplitAt (bs s) (bs sep) done fr j ∧ Below w.heap.size w wr ∧ w.heap.size < wr.heap.size) (fun _ _ i _ => s.size - (intOf i).toNat)
  case atStart => exact ⟨0, 0, [], Nat.zero_le _, Nat.le_refl _, Nat.le_refl _, rfl, rfl, ownsRow_empty _ _ _ (Nat.le_refl _), splitAt_zero _ _, (Below.refl _ _).alloc (Nat.le_refl _) _, by simp⟩
  case round =>
    obtain ⟨j, fr, done, hj, hfr, hdl, rfl, rfl, hown, hsp, hb, hsz⟩ := hrel
    have HB := Lib.hid hb
    have HOW := Lib.hid hown
    have HSP := Lib.hid hsp
    clear hb hown hsp
    obtain ⟨q, hq⟩ : ∃ q, done.length = q := ⟨_, rfl⟩
    rw [hq] at HOW hdl
    have HQ := Lib.hid hq
    clear hq
    by_cases hlt : j + sep.size ≤ s.size
    · have hltI : (j : Int) + sep.size ≤ s.size := by omega
      have hE := ext_bs s j (j + sep.size)
      have hbl := bs_length sep
      have e1 : ((bs s).take (j + sep.size)).drop j = ((bs s).drop j).take (bs sep).length := by rw [hbl, List.drop_take, Nat.add_sub_cancel_left]
      rw [e1] at hE
      by_cases ho : s.extract j (j + sep.size) = sep
      · have hnx := splitAt_hit HSP.out HNE.out (by rw [hbl, bs_length]; exact hlt) (by rw [← hE, ho])
        rw [hbl] at hnx
        have HNX := Lib.hid hnx
        have HX := Lib.hid (ext_ofL s fr j)
        have hb := str_yes ho
        have hfs : (fr : Int) ≤ j := by omega
        clear hnx hE hbl e1 ho
        go_wp2_with (at_builtin; refine wpList_append_own _ rfl _ _ 22 rfl w.heap.size 9 i0 (.string .empty) 1 16 Tryd.underlying22 hi hz0 hz1 hz2 rfl (by decide) _ _ _ rfl (HOW.out.alloc _) ⟨wr.heap.size, 0, none⟩ 1 1 [.string (s.extract fr j)] rfl rfl (cell_one_new _ _ _) (fun u hu => by simp at hu; subst hu; rfl) (by unfold maxLen; omega) (by omega) (by simp; omega) ?_; intro v2 w2 hown2 hgr2 hnil2)
        have hbz : Below w.heap.size w w2 := Below.grown (HB.out.alloc HB.out.size _) hgr2 (by simp; omega) (ownBlock_lo HOW.out)
        have hsz2 : w.heap.size < w2.heap.size := by have := hgr2.size; simp at this; omega
        refine ⟨⟨j + sep.size, j + sep.size, done ++ [((bs s).take j).drop fr], hlt, Nat.le_refl _, by rw [List.length_append, HQ.out]; simp; omega, by go_num, by go_num, ?_, HNX.out, hbz, hsz2⟩, by simp [intOf]; omega⟩
        rw [List.length_append, List.map_append, List.map_append, HQ.out]
        rw [HX.out] at hown2
        exact hown2
      · have hnx := splitAt_no HSP.out HNE.out (by rw [hbl, bs_length]; exact hlt) (fun h => ho (bs_inj (by rw [hE, h])))
        have HNX := Lib.hid hnx
        have hb := str_no ho
        clear hnx hE hbl e1 ho
        go_wp2
        refine ⟨⟨j + 1, fr, done, by omega, by omega, by rw [HQ.out]; omega, by go_num, rfl, by rw [HQ.out]; exact HOW.out, HNX.out, HB.out, hsz⟩, by simp [intOf]; omega⟩
    · have hltI : ¬ (j : Int) + sep.size ≤ s.size := by omega
      have hend := splitAt_end HSP.out HNE.out (by rw [bs_length, bs_length]; omega)
      have HEND := Lib.hid hend
      have HX : s.extract fr s.size = ofL ((bs s).drop fr) := by rw [ext_ofL, take_all]
      clear hend
      go_wp2_with (at_builtin; refine wpList_append_own _ rfl _ _ 22 rfl w.heap.size 9 i0 (.string .empty) 1 16 Tryd.underlying22 hi hz0 hz1 hz2 rfl (by decide) _ _ _ rfl (HOW.out.alloc _) ⟨wr.heap.size, 0, none⟩ 1 1 [.string (ofL ((bs s).drop fr))] rfl rfl (cell_one_new _ _ _) (fun u hu => by simp at hu; subst hu; rfl) (by unfold maxLen; omega) (by omega) (by simp; omega) ?_; intro v2 w2 hown2 hgr2 hnil2)
      go_ret
      have hbz : Below w.heap.size w w2 := Below.grown (HB.out.alloc HB.out.size _) hgr2 (by simp; omega) (ownBlock_lo HOW.out)
      refine ⟨v2, rfl, ?_, hbz⟩
      unfold splS
      rw [HEND.out, List.map_append, List.length_append, List.map_append, List.length_map, HQ.out]
      exact hown2

theorem splS_pos (s sep : ByteArray) : 1 ≤ (splS s sep).length := by
  unfold splS
  rw [List.length_map]
  have : ∀ (k : Nat) (sep l : List UInt8), 1 ≤ (Lib.splitK sep 0 k l).length := fun k sep l => by
    cases k with
    | zero => exact Nat.le_refl _
    | succ k =>
      unfold Lib.splitK
      split
      · exact Nat.le_refl _
      · simp
  exact this _ _ _
theorem splS_count (s sep : ByteArray) (h1 : 1 ≤ sep.size) : (splS s sep).length = Lib.countB s sep + 1 ∧ (splS s sep).length ≤ s.size + 1 := by
  have h := Lib.splitB_all sep h1 0 _ s rfl
  rw [splitB_split] at h
  have h2 := Lib.countB_le sep h1 s.size s (Nat.le_refl _)
  unfold splS
  exact ⟨h, by rw [h]; omega⟩

theorem stringsSplit_any (s sep : ByteArray) (w : World) (hM : MaxCell w) (hs : s.size ≤ 1099511627) (h1 : 1 ≤ sep.size) :
    Calls Tryd.prog 53 #[.string s, .string sep] w (StrsPost w (splS s sep)) := by
  obtain ⟨m, hm⟩ := hM
  obtain ⟨hc, hl⟩ := splS_count s sep h1
  refine (Tryd.strings_Split s sep m w (by omega) hm h1).mono ?_
  rintro e w' ⟨rfl, rfl⟩
  rw [splitB_split]
  have hlit := World.ownsRow_lit (base := w.heap.size) (e := 9) (size := 1) w ((splS s sep).map Value.string).toArray (Lib.countB s sep + 1) (Nat.le_refl _) (by unfold maxLen; omega) (by simp [hc])
  refine ⟨_, rfl, ?_, (Below.refl _ _).alloc (Nat.le_refl _) _⟩
  rw [hc]
  simpa [splS] using hlit

/-- the parts of a text; none of what is no text, or empty, or parted by nothing -/
def splT (s sep : ByteArray) : List ByteArray := if okT (bs s) = true ∧ okT (bs sep) = true ∧ s.size ≠ 0 ∧ sep.size ≠ 0 then splS s sep else []
theorem splT_no {s sep : ByteArray} (h : ¬ (okT (bs s) = true ∧ okT (bs sep) = true ∧ s.size ≠ 0 ∧ sep.size ≠ 0)) : splT s sep = [] := by unfold splT; rw [if_neg h]
theorem splT_yes {s sep : ByteArray} (h1 : okT (bs s) = true) (h2 : okT (bs sep) = true) (h3 : s.size ≠ 0) (h4 : sep.size ≠ 0) : splT s sep = splS s sep := by unfold splT; rw [if_pos ⟨h1, h2, h3, h4⟩]
theorem okT_size {s : ByteArray} (h : okT (bs s) = true) : s.size ≤ 1000 := by
  unfold okT textRunes at h
  by_cases h1 : 1000 < (bs s).length
  · rw [if_pos h1] at h; simp at h
  · rw [bs_length] at h1; omega

theorem splT_len (s sep : ByteArray) (h : s.size ≤ 1048576) : (splT s sep).length ≤ 1048577 := by
  unfold splT
  split
  · rename_i h1
    have := (splS_count s sep (by omega)).2
    omega
  · simp

set_option maxRecDepth 10000 in
theorem specSplitText_any (s sep : ByteArray) (w : World) (hs : s.size ≤ 1099511627776) (hsep : sep.size ≤ 1099511627776) :
    Calls Tryd.prog 25 #[.string s, .string sep] w (StrsPost w (splT s sep)) := by
  by_cases h0 : s.size = 0
  · have HE := Lib.hid (splT_no (s := s) (sep := sep) (fun h => h.2.2.1 h0))
    have he := isEmpty_yes h0
    go_enter Tryd.func25, Tryd.ntmps25
    go_wp2
    go_ret
    rw [HE.out]
    exact ⟨_, rfl, ownsRow_empty _ _ _ (Nat.le_refl _), (Below.refl _ _).alloc (Nat.le_refl _) _⟩
  by_cases h1 : sep.size = 0
  · have HE := Lib.hid (splT_no (s := s) (sep := sep) (fun h => h.2.2.2 h1))
    have he := isEmpty_no (s := s) (by omega)
    have he1 := isEmpty_yes h1
    go_enter Tryd.func25, Tryd.ntmps25
    go_wp2
    go_ret
    rw [HE.out]
    exact ⟨_, rfl, ownsRow_empty _ _ _ (Nat.le_refl _), (Below.refl _ _).alloc (Nat.le_refl _) _⟩
  · have he := isEmpty_no (s := s) (by omega)
    have he1 := isEmpty_no (s := sep) (by omega)
    go_enter Tryd.func25, Tryd.ntmps25
    go_wp2_with fail
    refine (specTextOk_any s _ hs).mono ?_
    rintro e w1 ⟨rfl, hb1⟩
    have HB1 := Lib.hid hb1
    clear hb1
    cases hk : okT (bs s)
    · have HE := Lib.hid (splT_no (s := s) (sep := sep) (fun h => by rw [hk] at h; cases h.1))
      go_wp2
      go_ret
      rw [HE.out]
      exact ⟨_, rfl, ownsRow_empty _ _ _ HB1.out.size, HB1.out.alloc HB1.out.size _⟩
    have HK := Lib.hid hk
    clear hk
    go_wp2_with fail
    refine (specTextOk_any sep _ hsep).mono ?_
    rintro e w2 ⟨rfl, hb2⟩
    have HB2 := Lib.hid (HB1.out.trans (hb2.mono HB1.out.size))
    clear hb2
    cases hk2 : okT (bs sep)
    · have HE := Lib.hid (splT_no (s := s) (sep := sep) (fun h => by rw [hk2] at h; cases h.2.1))
      go_wp2
      go_ret
      rw [HE.out]
      exact ⟨_, rfl, ownsRow_empty _ _ _ HB2.out.size, HB2.out.alloc HB2.out.size _⟩
    · have HE := Lib.hid (splT_yes HK.out hk2 h0 h1)
      have hz1 := okT_size HK.out
      have hz2 := okT_size hk2
      clear hk2
      go_wp2_with fail
      refine (l08Split_any s sep _ (by omega) (by omega) (by omega)).mono ?_
      rintro e w3 ⟨v, rfl, hown, hb3⟩
      obtain ⟨a, c, rfl⟩ := ownsRow_slice hown
      go_wp2
      go_ret
      rw [HE.out]
      exact ⟨_, rfl, ownsRow_base hown HB2.out.size, HB2.out.trans (hb3.mono HB2.out.size)⟩

set_option maxRecDepth 10000 in
theorem implSplitText_any (s sep : ByteArray) (w : World) (hs : s.size ≤ 1099511627776) (hsep : sep.size ≤ 1099511627776) (hT : Tabs w) (hM : MaxCell w) :
    Calls Tryd.prog 26 #[.string s, .string sep] w (StrsPost w (splT s sep)) := by
  have HT := Lib.hid hT
  have HMX := Lib.hid hM
  clear hT hM
  go_enter Tryd.func26, Tryd.ntmps26
  go_wp2_with fail
  refine (implTextOk_any s _ hs HT.out).mono ?_
  rintro e w1 ⟨rfl, hb1⟩
  have HB1 := Lib.hid hb1
  clear hb1
  cases hk : okT (bs s)
  · have HE := Lib.hid (splT_no (s := s) (sep := sep) (fun h => by rw [hk] at h; cases h.1))
    go_wp2
    go_ret
    rw [HE.out]
    exact ⟨_, rfl, ownsRow_none _ _ _, HB1.out⟩
  have HK := Lib.hid hk
  clear hk
  go_wp2_with fail
  refine (implTextOk_any sep _ hsep (HT.out.below HB1.out)).mono ?_
  rintro e w2 ⟨rfl, hb2⟩
  have HB2 := Lib.hid (HB1.out.trans (hb2.mono HB1.out.size))
  clear hb2
  cases hk2 : okT (bs sep)
  · have HE := Lib.hid (splT_no (s := s) (sep := sep) (fun h => by rw [hk2] at h; cases h.2.1))
    go_wp2
    go_ret
    rw [HE.out]
    exact ⟨_, rfl, ownsRow_none _ _ _, HB2.out⟩
  have HK2 := Lib.hid hk2
  clear hk2
  by_cases h0 : s.size = 0
  · have HE := Lib.hid (splT_no (s := s) (sep := sep) (fun h => h.2.2.1 h0))
    have he := isEmpty_yes h0
    go_wp2
    go_ret
    rw [HE.out]
    exact ⟨_, rfl, ownsRow_none _ _ _, HB2.out⟩
  by_cases h1 : sep.size = 0
  · have HE := Lib.hid (splT_no (s := s) (sep := sep) (fun h => h.2.2.2 h1))
    have he := isEmpty_no (s := s) (by omega)
    have he1 := isEmpty_yes h1
    go_wp2
    go_ret
    rw [HE.out]
    exact ⟨_, rfl, ownsRow_none _ _ _, HB2.out⟩
  · have he := isEmpty_no (s := s) (by omega)
    have he1 := isEmpty_no (s := sep) (by omega)
    have HE := Lib.hid (splT_yes HK.out HK2.out h0 h1)
    have hz1 := okT_size HK.out
    go_wp2_with fail
    refine (stringsSplit_any s sep _ (HMX.out.below HB2.out) (by omega) (by omega)).mono ?_
    rintro e w3 ⟨v, rfl, hown, hb3⟩
    obtain ⟨a, c, rfl⟩ := ownsRow_slice hown
    go_wp2
    go_ret
    rw [HE.out]
    exact ⟨_, rfl, ownsRow_base hown HB2.out.size, HB2.out.trans (hb3.mono HB2.out.size)⟩
end Go.Proofs.YtnleemcddhpanaaDoor

/-
  The contracts of Blanks, the reference's and the program's: the words of a text between blanks. Conditions: as in the text on Runes.
-/
import Derived.Test.YtnleemcddhpanaaDoorBlanksL
import Derived.Test.YtnleemcddhpanaaDoorSplit
import Derived.Test.YtnleemcddhpanaaDoorTextOk
namespace Go.Proofs.YtnleemcddhpanaaDoor
open Go.RowKit
open Go.Lib hiding intOf
set_option linter.unusedVariables false
set_option linter.unusedSimpArgs false

theorem specIsBlank_any (x : Nat) (w : World) : Calls Tryd.prog 30 #[.int .i64 (x : Int)] w fun e w' => e = .returned (.bool (blk x)) ∧ w' = w := by
  rw [blk_int]
  obtain ⟨b1, h1⟩ : ∃ b, ((x : Int) == 32) = b := ⟨_, rfl⟩
  obtain ⟨b2, h2⟩ : ∃ b, ((x : Int) == 9) = b := ⟨_, rfl⟩
  obtain ⟨b3, h3⟩ : ∃ b, ((x : Int) == 10) = b := ⟨_, rfl⟩
  obtain ⟨b4, h4⟩ : ∃ b, ((x : Int) == 13) = b := ⟨_, rfl⟩
  rw [h1, h2, h3, h4]
  cases b1 <;> cases b2 <;> cases b3 <;> cases b4
  all_goals
    go_enter Tryd.func30, Tryd.ntmps30
    go_wp2
    go_ret
    exact ⟨rfl, rfl⟩
theorem implIsBlank_any (x : Nat) (w : World) : Calls Tryd.prog 34 #[.int .i64 (x : Int)] w fun e w' => e = .returned (.bool (blk x)) ∧ w' = w := by
  rw [blk_int]
  obtain ⟨b1, h1⟩ : ∃ b, ((x : Int) == 32) = b := ⟨_, rfl⟩
  obtain ⟨b2, h2⟩ : ∃ b, ((x : Int) == 9) = b := ⟨_, rfl⟩
  obtain ⟨b3, h3⟩ : ∃ b, ((x : Int) == 10) = b := ⟨_, rfl⟩
  obtain ⟨b4, h4⟩ : ∃ b, ((x : Int) == 13) = b := ⟨_, rfl⟩
  rw [h1, h2, h3, h4]
  cases b1 <;> cases b2 <;> cases b3 <;> cases b4
  all_goals
    go_enter Tryd.func34, Tryd.ntmps34
    go_wp2
    go_ret
    exact ⟨rfl, rfl⟩
theorem blanksFn_any (x : Nat) (hx : x ≤ 1114111) (w : World) : Calls Tryd.prog 33 #[.int .i32 (x : Int)] w fun e w' => e = .returned (.bool (blk x)) ∧ w' = w := by
  go_enter Tryd.func33, Tryd.ntmps33
  go_wp2_with fail
  refine (implIsBlank_any x _).mono ?_
  rintro e w1 ⟨rfl, rfl⟩
  go_wp2
  go_ret
  exact ⟨rfl, rfl⟩

theorem bs_append (a b : ByteArray) : bs (a ++ b) = bs a ++ bs b := by simp [bs]
/-- the open word -/
def wdS (s : ByteArray) (j : Nat) : Option Nat → ByteArray
  | none => ofL []
  | some a => s.extract a j
theorem wdS_more (s : ByteArray) (j : Nat) (st : Option Nat) (h : ∀ a, st = some a → a < j) (hj : j < s.size) : wdS s j st ++ s.extract j (j + 1) = wdS s (j + 1) (some (st.getD j)) := by
  cases st with
  | none => exact bs_inj (by simp [wdS, bs, ofL])
  | some a =>
    have ha := h a rfl
    show s.extract a j ++ s.extract j (j + 1) = s.extract a (j + 1)
    have hl : j < (bs s).length := by rw [bs_length]; exact hj
    refine bs_inj ?_
    rw [bs_append, ext_bs, ext_bs, ext_bs, List.take_succ_eq_append_getElem hl]
    have hT : ((bs s).take j).length = j := by rw [List.length_take]; omega
    have e1 : ((bs s).take j ++ [(bs s)[j]]).drop j = [(bs s)[j]] := by
      conv => lhs; arg 1; rw [← hT]
      exact List.drop_left
    have e2 : ((bs s).take j ++ [(bs s)[j]]).drop a = ((bs s).take j).drop a ++ [(bs s)[j]] := List.drop_append_of_le_length (by omega)
    rw [e1, e2]
theorem wdS_size (s : ByteArray) (j : Nat) (st : Option Nat) (hj : j ≤ s.size) : (wdS s j st).size ≤ s.size := by
  cases st with
  | none => exact Nat.zero_le _
  | some a => show (s.extract a j).size ≤ _; rw [ByteArray.size_extract]; omega

set_option maxRecDepth 10000 in
set_option maxHeartbeats 2000000 in
theorem specBlanks_any (s : ByteArray) (w : World) (hs : s.size ≤ 1099511627776) :
    Calls Tryd.prog 9 #[.string s] w (StrsPost w (blanksT s)) := by
  obtain ⟨i0, hi, hz0, hz1, hz2⟩ := info_parts infoString
  go_enter Tryd.func9, Tryd.ntmps9
  go_wp2_with fail
  refine (specTextOk_any s _ hs).mono ?_
  rintro e w1 ⟨rfl, hb1⟩
  have HB1 := Lib.hid (((Below.refl w.heap.size w).alloc (Nat.le_refl _) _).trans (hb1.mono (by simp)))
  have HO1 := Lib.hid (ownsRow_below (ownsRow_empty w w.heap.size 9 (Nat.le_refl _)) hb1)
  clear hb1
  cases hk : okT (bs s)
  · have HE := Lib.hid (show blanksT s = [] by unfold blanksT; rw [hk]; rfl)
    go_wp2
    go_ret
    rw [HE.out]
    exact ⟨_, rfl, HO1.out, HB1.out⟩
  · have HE := Lib.hid (show blanksT s = (BS (bs s) (s.size + 1)).1.map (fun x => s.extract x.1 x.2) by unfold blanksT; rw [if_pos hk])
    have hs1 := okT_size hk
    clear hk
    go_wp2
    go_loopw [3, 4, 5] (fun ov wv iv wr => ∃ (j : Nat), j ≤ s.size + 1 ∧ iv = .int .i64 (j : Int) ∧ wv = .string (wdS s j (BS (bs s) j).2) ∧ wr.ownsRow w.heap.size 9 1 ov (BS (bs s) j).1.length (((BS (bs s) j).1.map (fun x => s.extract x.1 x.2)).map Value.string) ∧ Below w.heap.size w wr) (fun _ _ iv _ => s.size + 1 - (intOf iv).toNat)
    case atStart => exact ⟨0, Nat.zero_le _, rfl, rfl, HO1.out, HB1.out⟩
    case round =>
      obtain ⟨j, hj, rfl, rfl, hout, hb⟩ := hrel
      have HB := Lib.hid hb
      have hzb := hb.size
      have hcn := BS_count (bs s) j
      have hblt := BS_lt (bs s) j
      have hyes := fun h => BS_yes (l := bs s) (j := j) h
      have hno := fun h => BS_no (l := bs s) (j := j) h
      obtain ⟨o, ho⟩ : ∃ o, (BS (bs s) j).1 = o := ⟨_, rfl⟩
      obtain ⟨r, hr⟩ : ∃ r, (BS (bs s) j).2 = r := ⟨_, rfl⟩
      rw [ho] at hout hyes hno hcn
      rw [hr] at hyes hno hcn hblt ⊢
      obtain ⟨q, hq⟩ : ∃ q, o.length = q := ⟨_, rfl⟩
      rw [hq] at hout hcn
      have HQ := Lib.hid hq
      have HOEQ := Lib.hid ho
      have HOUT := Lib.hid hout
      have HYES := Lib.hid hyes
      have HNO := Lib.hid hno
      have HBLT := Lib.hid hblt
      clear hout hyes hno hblt ho hr hq hb
      by_cases hlt : j < s.size
      · have hgd : (bs s).getD j 32 = s[j] := by rw [List.getD_eq_getElem?_getD, List.getElem?_eq_getElem (by rw [bs_length]; exact hlt), Option.getD_some, bs_get s j hlt]
        rw [hgd] at HYES HNO
        obtain ⟨x, hx⟩ : ∃ x, s[j] = x := ⟨_, rfl⟩
        rw [hx] at HYES HNO
        have hx' : s[j] = x := hx
        have hxl := x.toNat_lt
        clear hgd hx
        cases hbk : blk x.toNat
        · have hps := HNO.out (by rw [hbk]; simp)
          have HPS := Lib.hid hps
          have hmo := wdS_more s j r HBLT.out hlt
          have hsz1 := wdS_size s j r (by omega)
          have hes : (s.extract j (j + 1)).size = 1 := by rw [ByteArray.size_extract]; omega
          have HMO := Lib.hid hmo
          obtain ⟨wd, hwd⟩ : ∃ wd, wdS s j r = wd := ⟨_, rfl⟩
          rw [hwd] at HMO hsz1 ⊢
          clear hps hmo hwd
          go_wp2_with (go_at_call 30; refine (specIsBlank_any x.toNat _).mono ?_; rintro e w2 ⟨rfl, hw2⟩; obtain rfl : wr = w2 := hw2.symm; rw [hbk])
          refine ⟨⟨j + 1, by omega, by go_num, ?_, ?_, HB.out⟩, by first | (simp [intOf]; done) | (simp [intOf]; omega)⟩
          · rw [HPS.out]
            exact congrArg Value.string HMO.out
          · rw [HPS.out]
            simp only [HQ.out]
            exact HOUT.out
        · have hps := HYES.out hbk
          have HPS := Lib.hid hps
          clear hps
          cases r with
          | none =>
            have hwe := isEmpty_yes (s := wdS s j none) rfl
            go_wp2_with (go_at_call 30; refine (specIsBlank_any x.toNat _).mono ?_; rintro e w2 ⟨rfl, hw2⟩; obtain rfl : wr = w2 := hw2.symm; rw [hbk])
            refine ⟨⟨j + 1, by omega, by go_num, by rw [HPS.out]; try rfl, ?_, HB.out⟩, by first | (simp [intOf]; done) | (simp [intOf]; omega)⟩
            rw [HPS.out]
            simp only [Option.map_none, Option.toList_none, List.append_nil, HQ.out]
            exact HOUT.out
          | some a =>
            have haj := HBLT.out a rfl
            have hwe := isEmpty_no (s := wdS s j (some a)) (by show 0 < (s.extract a j).size; rw [ByteArray.size_extract]; omega)
            obtain ⟨wd, hwd⟩ : ∃ wd, wdS s j (some a) = wd := ⟨_, rfl⟩
            rw [hwd] at hwe ⊢
            have HWD := Lib.hid (show s.extract a j = wd from hwd)
            clear hwd
            go_wp2_with (first | (go_at_call 30; refine (specIsBlank_any x.toNat _).mono ?_; rintro e w2 ⟨rfl, hw2⟩; obtain rfl : wr = w2 := hw2.symm; rw [hbk]) | (at_builtin; refine wpList_append_own _ rfl _ _ 22 rfl w.heap.size 9 i0 (.string .empty) 1 16 Tryd.underlying22 hi hz0 hz1 hz2 rfl (by decide) _ _ _ rfl (HOUT.out.alloc _) ⟨wr.heap.size, 0, none⟩ 1 1 [.string wd] rfl rfl (cell_one_new _ _ _) (fun u hu => by simp at hu; subst hu; rfl) (by unfold maxLen; omega) (by omega) (by first | omega | (simp; done) | (simp; omega)) ?_; intro v2 w2 hown2 hgr2 hnil2))
            have hbz : Below w.heap.size w w2 := Below.grown (HB.out.alloc HB.out.size _) hgr2 (by first | omega | (simp; done) | (simp; omega)) (ownBlock_lo HOUT.out)
            refine ⟨⟨j + 1, by omega, by go_num, by rw [HPS.out]; try rfl, ?_, hbz⟩, by first | (simp [intOf]; done) | (simp [intOf]; omega)⟩
            rw [HPS.out]
            simp only [Option.map_some, Option.toList_some, List.length_append, List.map_append, List.map_cons, List.map_nil, List.length_cons, List.length_nil, HQ.out, HWD.out]
            exact hown2
      · by_cases hle : j = s.size
        · subst hle
          have hbk : blk ((bs s).getD s.size 32).toNat = true := by
            rw [List.getD_eq_getElem?_getD, List.getElem?_eq_none (by rw [bs_length]; exact Nat.le_refl _)]
            rfl
          have hps := HYES.out hbk
          have HPS := Lib.hid hps
          clear hps hbk
          cases r with
          | none =>
            have hwe := isEmpty_yes (s := wdS s s.size none) rfl
            go_wp2
            refine ⟨⟨s.size + 1, by omega, by go_num, by rw [HPS.out]; try rfl, ?_, HB.out⟩, by first | (simp [intOf]; done) | (simp [intOf]; omega)⟩
            rw [HPS.out]
            simp only [Option.map_none, Option.toList_none, List.append_nil, HQ.out]
            exact HOUT.out
          | some a =>
            have haj := HBLT.out a rfl
            have hwe := isEmpty_no (s := wdS s s.size (some a)) (by show 0 < (s.extract a s.size).size; rw [ByteArray.size_extract]; omega)
            obtain ⟨wd, hwd⟩ : ∃ wd, wdS s s.size (some a) = wd := ⟨_, rfl⟩
            rw [hwd] at hwe ⊢
            have HWD := Lib.hid (show s.extract a s.size = wd from hwd)
            clear hwd
            go_wp2_with (at_builtin; refine wpList_append_own _ rfl _ _ 22 rfl w.heap.size 9 i0 (.string .empty) 1 16 Tryd.underlying22 hi hz0 hz1 hz2 rfl (by decide) _ _ _ rfl (HOUT.out.alloc _) ⟨wr.heap.size, 0, none⟩ 1 1 [.string wd] rfl rfl (cell_one_new _ _ _) (fun u hu => by simp at hu; subst hu; rfl) (by unfold maxLen; omega) (by omega) (by first | omega | (simp; done) | (simp; omega)) ?_; intro v2 w2 hown2 hgr2 hnil2)
            have hbz : Below w.heap.size w w2 := Below.grown (HB.out.alloc HB.out.size _) hgr2 (by first | omega | (simp; done) | (simp; omega)) (ownBlock_lo HOUT.out)
            refine ⟨⟨s.size + 1, by omega, by go_num, by rw [HPS.out]; try rfl, ?_, hbz⟩, by first | (simp [intOf]; done) | (simp [intOf]; omega)⟩
            rw [HPS.out]
            simp only [Option.map_some, Option.toList_some, List.length_append, List.map_append, List.map_cons, List.map_nil, List.length_cons, List.length_nil, HQ.out, HWD.out]
            exact hown2
        · obtain rfl : j = s.size + 1 := by omega
          obtain ⟨av, cv, hvv⟩ := ownsRow_slice HOUT.out
          subst hvv
          go_wp2
          go_ret
          rw [HE.out]
          refine ⟨_, rfl, ?_, HB.out⟩
          rw [List.length_map, HOEQ.out, HQ.out]
          exact HOUT.out

set_option maxRecDepth 10000 in
theorem implBlanks_any (s : ByteArray) (w : World) (hs : s.size ≤ 1099511627776) (hT : Tabs w) :
    Calls Tryd.prog 10 #[.string s] w (StrsPost w (blanksT s)) := by
  have HT := Lib.hid hT
  clear hT
  go_enter Tryd.func10, Tryd.ntmps10
  go_wp2_with fail
  refine (implTextOk_any s _ hs HT.out).mono ?_
  rintro e w1 ⟨rfl, hb1⟩
  have HB1 := Lib.hid hb1
  clear hb1
  cases hk : okT (bs s)
  · have HE := Lib.hid (show blanksT s = [] by unfold blanksT; rw [hk]; rfl)
    go_wp2
    go_ret
    rw [HE.out]
    exact ⟨_, rfl, ownsRow_none _ _ _, HB1.out⟩
  · have hs1 := okT_size hk
    obtain ⟨r, hr⟩ : ∃ r, runes (bs s) = some r := by
      unfold okT textRunes at hk
      by_cases h1 : 1000 < (bs s).length
      · rw [if_pos h1] at hk; simp at hk
      · rw [if_neg h1] at hk; exact Option.isSome_iff_exists.1 hk
    have he : blanksT s = Lib.goFieldsP blk s := by rw [fields_BS hr]; unfold blanksT; rw [if_pos hk]
    have HE := Lib.hid he
    have HF := Lib.hid (Tryd.strings_FieldsFunc_grows 33 #[] (enters_of Tryd.func33 (by kernel_rfl) rfl) blk s w1 (by omega) (fun W x hx hb => (blanksFn_any x hx W).mono (fun e w' ⟨h1, h2⟩ => ⟨h1, h2 ▸ Below.refl _ _⟩)))
    clear hk hr he
    go_wp2_with fail
    refine HF.out.mono ?_
    rintro e w2 ⟨A, rfl, hA, hown, hb2⟩
    go_wp2
    go_ret
    rw [HE.out]
    exact ⟨_, rfl, ownsRow_base hown HB1.out.size, HB1.out.trans (hb2.mono HB1.out.size)⟩
end Go.Proofs.YtnleemcddhpanaaDoor

/-
  The contracts of the program's quotedCell and csvCell: a cell from where the reader stands. Conditions: bounds; the reader stands in memory.
-/
import Derived.Test.YthpdmipgnoidpaaDoorCsvEnds
namespace Go.Proofs.YthpdmipgnoidpaaDoor
open Go.RowKit
open Go.Lib hiding intOf
set_option linter.unusedVariables false
set_option linter.unusedSimpArgs false

/-- a cell was read from k0 on: where the reader stands, what it means -/
def CCellPost (w : World) (g : Nat) (s : ByteArray) (k0 : Nat) (e : Ending) (w' : World) : Prop :=
  ∃ (code k' : Nat) (cell : List UInt8), e = .returned (.tuple #[.string (ofL cell), .int .i64 (code : Int)]) ∧ Rdr w' g s k' ∧ Mostly g w w' ∧ k0 ≤ k' ∧ k' ≤ s.size ∧ cell.length ≤ s.size ∧ code ≤ 7 ∧
    ((code = 0 ∧ cellG ((bs s).drop k0) k0 = (0, cell, k', (bs s).drop k')) ∨ (code ≠ 0 ∧ (cellG ((bs s).drop k0) k0).1 = code ∧ (cellG ((bs s).drop k0) k0).2.2.1 = k'))
theorem cut_append (s : ByteArray) (a b : Nat) (out : List UInt8) : ofL out ++ s.extract a b = ofL (out ++ ((bs s).take b).drop a) := bs_inj (by
  have e : bs (ofL out ++ s.extract a b) = out ++ bs (s.extract a b) := by simp [bs, ofL]
  rw [e, ext_cut, bs_ofL])
theorem cut_pre {s : ByteArray} {k : Nat} {pre post : List UInt8} (h : (bs s).drop k = pre ++ post) : ((bs s).take (k + pre.length)).drop k = pre := by
  rw [List.drop_take, Nat.add_sub_cancel_left, h]
  simp
theorem endB_size {s : ByteArray} {k : Nat} (h : endB ((bs s).drop k) = 0) : k < s.size := by
  rcases Nat.lt_or_ge k s.size with h1 | h1
  · exact h1
  · rw [endB_nine.2 h1] at h; cases h

set_option maxRecDepth 20000 in
set_option maxHeartbeats 4000000 in
theorem quotedCell_any (g : Nat) (s : ByteArray) (k0 : Nat) (w : World) (h : Rdr w g s k0) (hk0 : k0 < s.size) (h34 : s[k0] = 34) (hs : s.size ≤ 4000) :
    Calls Tryd.prog 109 #[.pointer (some ⟨g, 0, none⟩)] w (CCellPost w g s k0) := by
  have HR0 := Lib.hid h
  have HC34 := Lib.hid h34
  have c0 := h.text
  have c1 := h.place
  have f1 := h.free
  have gl := h.lt
  have HR1 := Lib.hid (h.set (.int .i64 ((k0 : Int) + 1)) (k0 + 1) (by go_num))
  clear h h34
  go_enter Tryd.func109, Tryd.ntmps109
  go_wp2
  go_loopw [4] (fun cv wr => ∃ (k : Nat) (out : List UInt8), Rdr wr g s k ∧ Mostly g w wr ∧ k0 + 1 ≤ k ∧ k ≤ s.size ∧ out.length ≤ k ∧ cv = .string (ofL out) ∧ csvQ ((bs s).drop (k0 + 1)) (k0 + 1) [] = csvQ ((bs s).drop k) k out) (fun _ wr => s.size - (intOf ((wr.cell? ⟨g, 1, none⟩).getD undef)).toNat)
  case atStart => exact ⟨k0 + 1, [], HR1.out, .set _ _ _ _, Nat.le_refl _, by omega, Nat.zero_le _, rfl, rfl⟩
  case round =>
    obtain ⟨k, out, hr, hm, hk, hks, hol, rfl, hq⟩ := hrel
    have HR := Lib.hid hr
    have HM := Lib.hid hm
    have HQ := Lib.hid hq
    have d0 := hr.text
    have d1 := hr.place
    have e1 := hr.free
    have dl := hr.lt
    have hoz : (ofL out).size ≤ 4000 := by rw [size_ofL]; omega
    obtain ⟨r, hr2⟩ : ∃ r, s.extract k s.size = r := ⟨_, rfl⟩
    have hbr : bs r = (bs s).drop k := by rw [← hr2, ext_cut, take_all]
    have hkI : (k : Int) ≤ s.size := by omega
    have hix := indexByte_split 34 (bs r)
    have HIX := Lib.hid (fun W => Tryd.strings_IndexByte r 34 W)
    have hix2 : Lib.indexByte r.data.toList ((34 : Int).toNat.toUInt8) = Lib.indexByte (bs r) 34 := rfl
    rw [hix2] at HIX
    have HBR := Lib.hid hbr
    obtain ⟨v, hv⟩ : ∃ v, Lib.indexByte (bs r) 34 = v := ⟨_, rfl⟩
    rw [hv] at HIX hix
    clear hr hm hq hix2 hv hbr c0 c1 f1 gl
    rcases hix with ⟨rfl, hno⟩ | ⟨pre, post, hpp, hnp, rfl⟩
    · have HE : Hid (cellG ((bs s).drop k0) k0 = (3, [], s.size, [])) := Lib.hid (cellG_open hk0 HC34.out (by rw [HQ.out, ← HBR.out, csvQ_no _ _ _ hno]))
      clear hno
      go_wp2
      go_quiet ((go_at_call 72; exact Calls.quiet_of_same (HIX.out _)))
      go_wp2
      refine bodyPost_ret (v := .tuple #[.string ⟨#[]⟩, .int .i64 3]) (by simp [results, Tryd.results109, go_sem, *]) rfl ?_
      exact ⟨3, s.size, [], rfl, (HR.out.below (Go.below_drewN (Below.refl _ _) _)).set _ _ rfl, (HM.out.call (Go.below_drewN (Below.refl _ _) _)).setCell _ _, by omega, Nat.le_refl _, Nat.zero_le _, by omega, .inr ⟨by omega, by rw [HE.out], by rw [HE.out]⟩⟩
    · have HPP : Hid ((bs s).drop k = pre ++ 34 :: post) := Lib.hid (by rw [← HBR.out, hpp])
      have hlen : k + pre.length + 1 ≤ s.size := by
        have := congrArg List.length HPP.out
        rw [List.length_drop, bs_length, List.length_append, List.length_cons] at this
        omega
      have HPOST : Hid (post = (bs s).drop (k + pre.length + 1)) := Lib.hid (by
        have h1 : (bs s).drop (k + (pre.length + 1)) = ((bs s).drop k).drop (pre.length + 1) := by rw [List.drop_drop]
        rw [Nat.add_assoc, h1, HPP.out, List.drop_append]
        simp)
      have HCUT := Lib.hid (cut_pre HPP.out)
      have HCA := Lib.hid (cut_append s k (k + pre.length) out)
      rw [HCUT.out] at HCA
      have HQ2 : Hid (csvQ ((bs s).drop (k0 + 1)) (k0 + 1) [] = csvQ (34 :: (bs s).drop (k + pre.length + 1)) (k + pre.length) (out ++ pre)) := Lib.hid (by rw [HQ.out, HPP.out, csvQ_pre _ _ _ hnp, HPOST.out])
      have hxz : (s.extract k (k + pre.length)).size ≤ 4000 := by rw [ByteArray.size_extract]; omega
      clear hpp hnp
      obtain ⟨p, hp⟩ : ∃ p, pre.length = p := ⟨_, rfl⟩
      rw [hp] at HIX hlen HCA HQ2 hxz
      have HP := Lib.hid hp
      clear hp
      have x1 : IntKind.i64.wrap ((k : Int) + (p : Int)) = (k : Int) + (p : Int) := IntWalk.i64_in _ (by omega)
      have x2 : ((k : Int) + (p : Int)).toNat = k + p := by omega
      have x3 : (0 : Int) ≤ (k : Int) + p := by omega
      have x4 : (k : Int) + p ≤ s.size := by omega
      have x5 : (k : Int) ≤ (k : Int) + p := by omega
      have x6 : (0 : Int) ≤ (p : Int) := by omega
      go_wp2
      go_quiet ((go_at_call 72; exact Calls.quiet_of_same (HIX.out _)))
      go_wp2
      go_quiet (fail)
      clear x1 hr2
      go_wp2
      rw [HCA.out]
      obtain ⟨j, hj⟩ : ∃ j, k + p + 1 = j := ⟨_, rfl⟩
      have H5 := Lib.hid (fun n => (⟨(HR.out.below (Go.below_drewN (Below.refl _ _) n)).set (.int .i64 ((k : Int) + ((p : Int) + 1))) j (by rw [← hj, show ((k + p + 1 : Nat) : Int) = (k : Int) + ((p : Int) + 1) by omega]), (HM.out.call (Go.below_drewN (Below.refl _ _) n)).setCell 1 (.int .i64 ((k : Int) + ((p : Int) + 1)))⟩ : Rdr ((wr.drewN n).setCell ⟨g, 1, none⟩ (.int .i64 ((k : Int) + ((p : Int) + 1)))) g s j ∧ Mostly g w ((wr.drewN n).setCell ⟨g, 1, none⟩ (.int .i64 ((k : Int) + ((p : Int) + 1))))))
      have hkj : k + p + 1 ≤ j ∧ k < j := by omega
      have HJ := Lib.hid hj
      rw [hj] at hlen HQ2
      clear hj x2 x3 x4 x5
      generalize hw5 : (wr.drewN _).setCell ⟨g, 1, none⟩ (.int .i64 ((k : Int) + ((p : Int) + 1))) = w5
      obtain ⟨HR5a, HM5a⟩ := H5.out _
      rw [hw5] at HR5a HM5a
      have HR5 := Lib.hid HR5a
      have HM5 := Lib.hid HM5a
      have d05 := HR5a.text
      have d15 := HR5a.place
      have f15 := HR5a.free
      have dl5 := HR5a.lt
      have HPL := Lib.hid d1
      clear hw5 HR5a HM5a H5 d0 d1 e1 dl
      by_cases hjs : j = s.size
      · have hjb : ((j : Int) == (s.size : Int)) = true := by rw [hjs]; simp
        have HNX : Hid (((bs s).drop j).head? ≠ some 34) := Lib.hid (by rw [drop_end s j (by omega)]; simp)
        clear hjs
        go_quiet (fail)
        go_wp2
        -- what stands behind the cell
        have HQ3 : Hid (csvQ ((bs s).drop (k0 + 1)) (k0 + 1) [] = some (out ++ pre, j, (bs s).drop (j))) := Lib.hid (by rw [HQ2.out, csvQ_end HNX.out, HJ.out])
        have HG := Lib.hid (cellG_quoted hk0 HC34.out HQ3.out)
        have HER := Lib.hid (fun n => endsRow_any g s (j) (w5.drewN n) (HR5.out.below (Go.below_drewN (Below.refl _ _) n)) hlen hs)
        by_cases hen : endB ((bs s).drop (j)) = 0
        · have hlt5 := endB_size hen
          have hlt5I : (j : Int) < s.size := by omega
          have hv5 : eR ((bs s).drop (j)) = -1 := by unfold eR; rw [if_pos hen]
          rw [hv5] at HER
          have HEN := Lib.hid hen
          clear hv5 hen
          by_cases h44 : (s[j].toNat : Int) = 44
          · have hb44 : ((s[j].toNat : Int) != 44) = false := by simpa using h44
            have HF : Hid (cellG ((bs s).drop k0) k0 = (0, out ++ pre, j, (bs s).drop (j))) := Lib.hid (by rw [HG.out, if_neg (fun h => h.2 ((head_at hlt5 44).2 (u8_eq h44)))])
            clear h44
            go_quiet ((go_at_call 77; exact quiet_more_draws (HER.out _)))
            go_wp2
            refine bodyPost_ret (v := .tuple #[.string (ofL (out ++ pre)), .int .i64 0]) (by simp [results, Tryd.results109, go_sem, *]) rfl ?_
            exact ⟨0, j, out ++ pre, rfl, HR5.out.below (by (repeat (first | exact Below.refl _ _ | assumption | refine Below.drew ?_ | refine Go.below_drewN ?_ _ | (refine Below.alloc ?_ (by first | exact Nat.le_refl _ | (simp; done) | (simp; omega) | (simp at *; omega)) _) | (refine Below.setCell ?_ (by first | exact Nat.le_refl _ | (simp; done) | (simp; omega)) _) | (refine Below.trans ?_ (Below.mono (by assumption) (by first | exact Nat.le_refl _ | (simp; done) | (simp; omega) | (simp at *; omega))))))), HM5.out.call (by (repeat (first | exact Below.refl _ _ | assumption | refine Below.drew ?_ | refine Go.below_drewN ?_ _ | (refine Below.alloc ?_ (by first | exact Nat.le_refl _ | (simp; done) | (simp; omega) | (simp at *; omega)) _) | (refine Below.setCell ?_ (by first | exact Nat.le_refl _ | (simp; done) | (simp; omega)) _) | (refine Below.trans ?_ (Below.mono (by assumption) (by first | exact Nat.le_refl _ | (simp; done) | (simp; omega) | (simp at *; omega))))))), by omega, hlen, by rw [List.length_append, HP.out]; omega, by omega, .inl ⟨rfl, HF.out⟩⟩
          · have hb44 : ((s[j].toNat : Int) != 44) = true := by rw [bne_iff_ne]; exact h44
            have HF : Hid (cellG ((bs s).drop k0) k0 = (2, [], j, (bs s).drop (j))) := Lib.hid (by rw [HG.out, if_pos ⟨HEN.out, fun h => h44 (by rw [(head_at hlt5 44).1 h]; rfl)⟩])
            clear h44
            go_quiet ((go_at_call 77; exact quiet_more_draws (HER.out _)))
            go_wp2
            refine bodyPost_ret (v := .tuple #[.string ⟨#[]⟩, .int .i64 2]) (by simp [results, Tryd.results109, go_sem, *]) rfl ?_
            exact ⟨2, j, [], rfl, HR5.out.below (by (repeat (first | exact Below.refl _ _ | assumption | refine Below.drew ?_ | refine Go.below_drewN ?_ _ | (refine Below.alloc ?_ (by first | exact Nat.le_refl _ | (simp; done) | (simp; omega) | (simp at *; omega)) _) | (refine Below.setCell ?_ (by first | exact Nat.le_refl _ | (simp; done) | (simp; omega)) _) | (refine Below.trans ?_ (Below.mono (by assumption) (by first | exact Nat.le_refl _ | (simp; done) | (simp; omega) | (simp at *; omega))))))), HM5.out.call (by (repeat (first | exact Below.refl _ _ | assumption | refine Below.drew ?_ | refine Go.below_drewN ?_ _ | (refine Below.alloc ?_ (by first | exact Nat.le_refl _ | (simp; done) | (simp; omega) | (simp at *; omega)) _) | (refine Below.setCell ?_ (by first | exact Nat.le_refl _ | (simp; done) | (simp; omega)) _) | (refine Below.trans ?_ (Below.mono (by assumption) (by first | exact Nat.le_refl _ | (simp; done) | (simp; omega) | (simp at *; omega))))))), by omega, hlen, Nat.zero_le _, by omega, .inr ⟨by omega, by rw [HF.out], by rw [HF.out]⟩⟩
        · have hv5 : ¬ eR ((bs s).drop (j)) < 0 := fun h => hen (eR_neg.1 h)
          have HF : Hid (cellG ((bs s).drop k0) k0 = (0, out ++ pre, j, (bs s).drop (j))) := Lib.hid (by rw [HG.out, if_neg (fun h => hen h.1)])
          obtain ⟨v, hv⟩ : ∃ v, eR ((bs s).drop (j)) = v := ⟨_, rfl⟩
          rw [hv] at HER hv5
          clear hv hen
          go_quiet ((go_at_call 77; exact quiet_more_draws (HER.out _)))
          go_wp2
          refine bodyPost_ret (v := .tuple #[.string (ofL (out ++ pre)), .int .i64 0]) (by simp [results, Tryd.results109, go_sem, *]) rfl ?_
          exact ⟨0, j, out ++ pre, rfl, HR5.out.below (by (repeat (first | exact Below.refl _ _ | assumption | refine Below.drew ?_ | refine Go.below_drewN ?_ _ | (refine Below.alloc ?_ (by first | exact Nat.le_refl _ | (simp; done) | (simp; omega) | (simp at *; omega)) _) | (refine Below.setCell ?_ (by first | exact Nat.le_refl _ | (simp; done) | (simp; omega)) _) | (refine Below.trans ?_ (Below.mono (by assumption) (by first | exact Nat.le_refl _ | (simp; done) | (simp; omega) | (simp at *; omega))))))), HM5.out.call (by (repeat (first | exact Below.refl _ _ | assumption | refine Below.drew ?_ | refine Go.below_drewN ?_ _ | (refine Below.alloc ?_ (by first | exact Nat.le_refl _ | (simp; done) | (simp; omega) | (simp at *; omega)) _) | (refine Below.setCell ?_ (by first | exact Nat.le_refl _ | (simp; done) | (simp; omega)) _) | (refine Below.trans ?_ (Below.mono (by assumption) (by first | exact Nat.le_refl _ | (simp; done) | (simp; omega) | (simp at *; omega))))))), by omega, hlen, by rw [List.length_append, HP.out]; omega, by omega, .inl ⟨rfl, HF.out⟩⟩
      have hjb : ((j : Int) == (s.size : Int)) = false := by rw [beq_eq_false_iff_ne]; omega
      have hjlt : j < s.size := by omega
      have hjI : (j : Int) < s.size := by omega
      clear hjs
      by_cases hq34 : (s[j].toNat : Int) = 34
      · have hqb : ((s[j].toNat : Int) != 34) = false := by simpa using hq34
        have HC : Hid (s[j] = 34) := Lib.hid (u8_eq hq34)
        have HQ4 : Hid (csvQ ((bs s).drop (k0 + 1)) (k0 + 1) [] = csvQ ((bs s).drop (j + 1)) (j + 1) (out ++ pre ++ [34])) := Lib.hid (by have h7 := HJ.out; rw [HQ2.out, bs_drop s j hjlt, HC.out, csvQ_two, show k + p + 2 = j + 1 by omega])
        have hadd : ofL (out ++ pre) ++ ⟨#[34]⟩ = ofL (out ++ pre ++ [34]) := bs_inj (by simp [bs, ofL])
        have HADD := Lib.hid hadd
        have hzo : (ofL (out ++ pre)).size ≤ 4000 := by rw [size_ofL, List.length_append, HP.out]; omega
        clear hq34 hadd
        go_quiet (fail)
        go_wp2
        rw [HADD.out]
        refine ⟨⟨j + 1, out ++ pre ++ [34], (HR5.out.below (Go.below_drewN (Below.refl _ _) _)).set _ _ (by go_num), (HM5.out.call (Go.below_drewN (Below.refl _ _) _)).setCell _ _, by omega, by omega, by rw [List.length_append, List.length_append, HP.out]; simp only [List.length_cons, List.length_nil]; omega, rfl, HQ4.out⟩, ?_⟩
        rw [HPL.out, ((HR5.out.below (Go.below_drewN (Below.refl _ _) _)).set (.int .i64 ((j : Int) + 1)) (j + 1) (by go_num)).place]
        simp [intOf]; omega
      · have hqb : ((s[j].toNat : Int) != 34) = true := by rw [bne_iff_ne]; exact hq34
        have HNX : Hid (((bs s).drop j).head? ≠ some 34) := Lib.hid (fun h => hq34 (by rw [(head_at hjlt 34).1 h]; rfl))
        clear hq34
        go_quiet (fail)
        go_wp2
        -- what stands behind the cell
        have HQ3 : Hid (csvQ ((bs s).drop (k0 + 1)) (k0 + 1) [] = some (out ++ pre, j, (bs s).drop (j))) := Lib.hid (by rw [HQ2.out, csvQ_end HNX.out, HJ.out])
        have HG := Lib.hid (cellG_quoted hk0 HC34.out HQ3.out)
        have HER := Lib.hid (fun n => endsRow_any g s (j) (w5.drewN n) (HR5.out.below (Go.below_drewN (Below.refl _ _) n)) hlen hs)
        by_cases hen : endB ((bs s).drop (j)) = 0
        · have hlt5 := endB_size hen
          have hlt5I : (j : Int) < s.size := by omega
          have hv5 : eR ((bs s).drop (j)) = -1 := by unfold eR; rw [if_pos hen]
          rw [hv5] at HER
          have HEN := Lib.hid hen
          clear hv5 hen
          by_cases h44 : (s[j].toNat : Int) = 44
          · have hb44 : ((s[j].toNat : Int) != 44) = false := by simpa using h44
            have HF : Hid (cellG ((bs s).drop k0) k0 = (0, out ++ pre, j, (bs s).drop (j))) := Lib.hid (by rw [HG.out, if_neg (fun h => h.2 ((head_at hlt5 44).2 (u8_eq h44)))])
            clear h44
            go_quiet ((go_at_call 77; exact quiet_more_draws (HER.out _)))
            go_wp2
            refine bodyPost_ret (v := .tuple #[.string (ofL (out ++ pre)), .int .i64 0]) (by simp [results, Tryd.results109, go_sem, *]) rfl ?_
            exact ⟨0, j, out ++ pre, rfl, HR5.out.below (by (repeat (first | exact Below.refl _ _ | assumption | refine Below.drew ?_ | refine Go.below_drewN ?_ _ | (refine Below.alloc ?_ (by first | exact Nat.le_refl _ | (simp; done) | (simp; omega) | (simp at *; omega)) _) | (refine Below.setCell ?_ (by first | exact Nat.le_refl _ | (simp; done) | (simp; omega)) _) | (refine Below.trans ?_ (Below.mono (by assumption) (by first | exact Nat.le_refl _ | (simp; done) | (simp; omega) | (simp at *; omega))))))), HM5.out.call (by (repeat (first | exact Below.refl _ _ | assumption | refine Below.drew ?_ | refine Go.below_drewN ?_ _ | (refine Below.alloc ?_ (by first | exact Nat.le_refl _ | (simp; done) | (simp; omega) | (simp at *; omega)) _) | (refine Below.setCell ?_ (by first | exact Nat.le_refl _ | (simp; done) | (simp; omega)) _) | (refine Below.trans ?_ (Below.mono (by assumption) (by first | exact Nat.le_refl _ | (simp; done) | (simp; omega) | (simp at *; omega))))))), by omega, hlen, by rw [List.length_append, HP.out]; omega, by omega, .inl ⟨rfl, HF.out⟩⟩
          · have hb44 : ((s[j].toNat : Int) != 44) = true := by rw [bne_iff_ne]; exact h44
            have HF : Hid (cellG ((bs s).drop k0) k0 = (2, [], j, (bs s).drop (j))) := Lib.hid (by rw [HG.out, if_pos ⟨HEN.out, fun h => h44 (by rw [(head_at hlt5 44).1 h]; rfl)⟩])
            clear h44
            go_quiet ((go_at_call 77; exact quiet_more_draws (HER.out _)))
            go_wp2
            refine bodyPost_ret (v := .tuple #[.string ⟨#[]⟩, .int .i64 2]) (by simp [results, Tryd.results109, go_sem, *]) rfl ?_
            exact ⟨2, j, [], rfl, HR5.out.below (by (repeat (first | exact Below.refl _ _ | assumption | refine Below.drew ?_ | refine Go.below_drewN ?_ _ | (refine Below.alloc ?_ (by first | exact Nat.le_refl _ | (simp; done) | (simp; omega) | (simp at *; omega)) _) | (refine Below.setCell ?_ (by first | exact Nat.le_refl _ | (simp; done) | (simp; omega)) _) | (refine Below.trans ?_ (Below.mono (by assumption) (by first | exact Nat.le_refl _ | (simp; done) | (simp; omega) | (simp at *; omega))))))), HM5.out.call (by (repeat (first | exact Below.refl _ _ | assumption | refine Below.drew ?_ | refine Go.below_drewN ?_ _ | (refine Below.alloc ?_ (by first | exact Nat.le_refl _ | (simp; done) | (simp; omega) | (simp at *; omega)) _) | (refine Below.setCell ?_ (by first | exact Nat.le_refl _ | (simp; done) | (simp; omega)) _) | (refine Below.trans ?_ (Below.mono (by assumption) (by first | exact Nat.le_refl _ | (simp; done) | (simp; omega) | (simp at *; omega))))))), by omega, hlen, Nat.zero_le _, by omega, .inr ⟨by omega, by rw [HF.out], by rw [HF.out]⟩⟩
        · have hv5 : ¬ eR ((bs s).drop (j)) < 0 := fun h => hen (eR_neg.1 h)
          have HF : Hid (cellG ((bs s).drop k0) k0 = (0, out ++ pre, j, (bs s).drop (j))) := Lib.hid (by rw [HG.out, if_neg (fun h => hen h.1)])
          obtain ⟨v, hv⟩ : ∃ v, eR ((bs s).drop (j)) = v := ⟨_, rfl⟩
          rw [hv] at HER hv5
          clear hv hen
          go_quiet ((go_at_call 77; exact quiet_more_draws (HER.out _)))
          go_wp2
          refine bodyPost_ret (v := .tuple #[.string (ofL (out ++ pre)), .int .i64 0]) (by simp [results, Tryd.results109, go_sem, *]) rfl ?_
          exact ⟨0, j, out ++ pre, rfl, HR5.out.below (by (repeat (first | exact Below.refl _ _ | assumption | refine Below.drew ?_ | refine Go.below_drewN ?_ _ | (refine Below.alloc ?_ (by first | exact Nat.le_refl _ | (simp; done) | (simp; omega) | (simp at *; omega)) _) | (refine Below.setCell ?_ (by first | exact Nat.le_refl _ | (simp; done) | (simp; omega)) _) | (refine Below.trans ?_ (Below.mono (by assumption) (by first | exact Nat.le_refl _ | (simp; done) | (simp; omega) | (simp at *; omega))))))), HM5.out.call (by (repeat (first | exact Below.refl _ _ | assumption | refine Below.drew ?_ | refine Go.below_drewN ?_ _ | (refine Below.alloc ?_ (by first | exact Nat.le_refl _ | (simp; done) | (simp; omega) | (simp at *; omega)) _) | (refine Below.setCell ?_ (by first | exact Nat.le_refl _ | (simp; done) | (simp; omega)) _) | (refine Below.trans ?_ (Below.mono (by assumption) (by first | exact Nat.le_refl _ | (simp; done) | (simp; omega) | (simp at *; omega))))))), by omega, hlen, by rw [List.length_append, HP.out]; omega, by omega, .inl ⟨rfl, HF.out⟩⟩
end Go.Proofs.YthpdmipgnoidpaaDoor

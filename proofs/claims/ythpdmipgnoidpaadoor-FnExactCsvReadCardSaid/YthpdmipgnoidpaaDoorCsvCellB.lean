/-
  The contract of the program's csvCell. Conditions: bounds; the reader stands in memory.
-/
import Derived.Test.YthpdmipgnoidpaaDoorCsvCell
namespace Go.Proofs.YthpdmipgnoidpaaDoor
open Go.RowKit
open Go.Lib hiding intOf
set_option linter.unusedVariables false
set_option linter.unusedSimpArgs false

theorem CCellPost.later {w u : World} {g : Nat} {s : ByteArray} {k0 : Nat} {e : Ending} {w' : World} (h : CCellPost u g s k0 e w') (hb : Below w.heap.size w u) : CCellPost w g s k0 e w' := by
  obtain ⟨code, k', cell, h1, h2, h3, h4⟩ := h
  exact ⟨code, k', cell, h1, h2, (Mostly.of_below hb).trans h3, h4⟩
theorem cut_ofL (s : ByteArray) (a b : Nat) : s.extract a b = ofL (((bs s).take b).drop a) := bs_inj (by rw [ext_cut, bs_ofL])
theorem take_snoc_drop (s : ByteArray) (k0 k : Nat) (h0 : k0 ≤ k) (h : k < s.size) : ((bs s).take (k + 1)).drop k0 = ((bs s).take k).drop k0 ++ [s[k]] := by
  rw [take_snoc s k h, List.drop_append_of_le_length (by rw [List.length_take, bs_length]; omega)]
theorem cut_length (s : ByteArray) (k0 k : Nat) : (((bs s).take k).drop k0).length ≤ s.size := by
  rw [List.length_drop, List.length_take, bs_length]; omega

set_option maxRecDepth 20000 in
set_option maxHeartbeats 4000000 in
theorem csvCell_any (g : Nat) (s : ByteArray) (k0 : Nat) (w : World) (h : Rdr w g s k0) (hk0 : k0 ≤ s.size) (hs : s.size ≤ 4000) :
    Calls Tryd.prog 76 #[.pointer (some ⟨g, 0, none⟩)] w (CCellPost w g s k0) := by
  have HR0 := Lib.hid h
  have c0 := h.text
  have c1 := h.place
  have f1 := h.free
  have gl := h.lt
  clear h
  by_cases hq : ∃ h : k0 < s.size, s[k0] = 34
  · obtain ⟨hlt, h34⟩ := hq
    have hltI : (k0 : Int) < s.size := by omega
    have hb : ((s[k0].toNat : Int) == 34) = true := by rw [h34]; rfl
    have HQ := Lib.hid (fun n => (quotedCell_any g s k0 (w.drewN n) (HR0.out.below (Go.below_drewN (Below.refl _ _) n)) hlt h34 hs))
    clear h34
    go_enter Tryd.func76, Tryd.ntmps76
    go_wp2
    go_quiet (fail)
    go_wp2_with fail
    refine (HQ.out _).mono ?_
    rintro e w2 hp
    have hp2 := hp.later (Go.below_drewN (Below.refl w.heap.size w) _)
    clear hp
    obtain ⟨code, k', cell, rfl, hrest⟩ := hp2
    have HREST := Lib.hid hrest
    clear hrest
    go_wp2
    refine bodyPost_ret (v := .tuple #[.string (ofL cell), .int .i64 code]) (by simp [results, Tryd.results76, go_sem, *]) rfl ?_
    exact ⟨code, k', cell, rfl, HREST.out⟩
  have HPL := Lib.hid (cellG_plain (s := s) (k := k0) (fun h e => hq ⟨h, e⟩))
  have hb : (¬ (k0 : Int) < s.size) ∨ ∃ h : k0 < s.size, ((s[k0].toNat : Int) == 34) = false := by
    by_cases hlt : k0 < s.size
    · exact .inr ⟨hlt, by rw [beq_eq_false_iff_ne]; exact fun e => hq ⟨hlt, u8_eq e⟩⟩
    · exact .inl (by omega)
  clear hq
  have HST : Hid (∀ n, Rdr (w.drewN n) g s k0 ∧ Mostly g w (w.drewN n)) := Lib.hid (fun n => ⟨HR0.out.below (Go.below_drewN (Below.refl _ _) n), .of_below (Go.below_drewN (Below.refl _ _) n)⟩)
  rcases hb with hb | ⟨hlt, hb⟩
  all_goals
    (try have hltI : (k0 : Int) < s.size := by omega)
    (try have hltD : decide (k0 < s.size) = false := by simp only [decide_eq_false_iff_not]; omega)
    go_enter Tryd.func76, Tryd.ntmps76
    go_wp2
    go_quiet (fail)
    go_wp2
    go_loopw [58] (fun _ wr => ∃ (k : Nat), Rdr wr g s k ∧ Mostly g w wr ∧ k0 ≤ k ∧ k ≤ s.size ∧ csvU ((bs s).drop k0) k0 [] = csvU ((bs s).drop k) k (((bs s).take k).drop k0)) (fun _ wr => s.size - (intOf ((wr.cell? ⟨g, 1, none⟩).getD undef)).toNat)
    case atStart => exact ⟨k0, (HST.out _).1, (HST.out _).2, Nat.le_refl _, hk0, by rw [show ((bs s).take k0).drop k0 = [] from List.drop_eq_nil_of_le (by rw [List.length_take]; omega)]⟩
    case round =>
      obtain ⟨k, hr, hm, hk, hks, hu⟩ := hrel
      have HR := Lib.hid hr
      have HM := Lib.hid hm
      have HU := Lib.hid hu
      have HER := Lib.hid (fun n => endsRow_any g s k (wr.drewN n) (hr.below (Go.below_drewN (Below.refl _ _) n)) hks hs)
      have d0 := hr.text
      have d1 := hr.place
      have e1 := hr.free
      have dl := hr.lt
      have HX := Lib.hid (cut_ofL s k0 k)
      have HLE := Lib.hid (cut_length s k0 k)
      have hkkI : (k0 : Int) ≤ k := by omega
      have hksI : (k : Int) ≤ s.size := by omega
      clear hr hm hu c0 c1 f1 gl hb
      by_cases hen : endB ((bs s).drop k) = 0
      · have hlt5 := endB_size hen
        have hlt5I : (k : Int) < s.size := by omega
        have hv5 : eR ((bs s).drop k) = -1 := by unfold eR; rw [if_pos hen]
        rw [hv5] at HER
        have HEN := Lib.hid hen
        clear hv5 hen
        by_cases h44 : (s[k].toNat : Int) = 44
        · have hb44 : ((s[k].toNat : Int) != 44) = false := by simpa using h44
          have HF : Hid (cellG ((bs s).drop k0) k0 = (0, ((bs s).take k).drop k0, k, (bs s).drop k)) := Lib.hid (by rw [HPL.out, HU.out, csvU_end (.inr (fun _ => u8_eq h44))])
          clear h44
          go_wp2
          go_quiet ((go_at_call 77; exact Calls.quiet_of (HER.out _)))
          go_wp2
          go_quiet (fail)
          go_wp2
          refine bodyPost_ret (v := .tuple #[.string (s.extract k0 k), .int .i64 0]) (by simp [results, Tryd.results76, go_sem, *]) rfl ?_
          exact ⟨0, k, ((bs s).take k).drop k0, by rw [HX.out]; rfl, HR.out.below (by (repeat (first | exact Below.refl _ _ | assumption | refine Below.drew ?_ | refine Go.below_drewN ?_ _ | (refine Below.alloc ?_ (by first | exact Nat.le_refl _ | (simp; done) | (simp; omega) | (simp at *; omega)) _) | (refine Below.setCell ?_ (by first | exact Nat.le_refl _ | (simp; done) | (simp; omega)) _) | (refine Below.trans ?_ (Below.mono (by assumption) (by first | exact Nat.le_refl _ | (simp; done) | (simp; omega) | (simp at *; omega))))))), HM.out.call (by (repeat (first | exact Below.refl _ _ | assumption | refine Below.drew ?_ | refine Go.below_drewN ?_ _ | (refine Below.alloc ?_ (by first | exact Nat.le_refl _ | (simp; done) | (simp; omega) | (simp at *; omega)) _) | (refine Below.setCell ?_ (by first | exact Nat.le_refl _ | (simp; done) | (simp; omega)) _) | (refine Below.trans ?_ (Below.mono (by assumption) (by first | exact Nat.le_refl _ | (simp; done) | (simp; omega) | (simp at *; omega))))))), hk, hks, HLE.out, by omega, .inl ⟨rfl, HF.out⟩⟩
        have hb44 : ((s[k].toNat : Int) != 44) = true := by rw [bne_iff_ne]; exact h44
        have HN44 : Hid (s[k] ≠ 44) := Lib.hid (fun e => h44 (by rw [e]; rfl))
        clear h44
        by_cases h34 : (s[k].toNat : Int) = 34
        · have hb34 : ((s[k].toNat : Int) == 34) = true := by rw [h34]; rfl
          have HF : Hid (cellG ((bs s).drop k0) k0 = (2, [], k, (bs s).drop k)) := Lib.hid (by rw [HPL.out, HU.out, csvU_step hlt5 HEN.out HN44.out, if_pos (u8_eq h34)])
          clear h34
          go_wp2
          go_quiet ((go_at_call 77; exact Calls.quiet_of (HER.out _)))
          go_wp2
          go_quiet (fail)
          go_wp2
          refine bodyPost_ret (v := .tuple #[.string ⟨#[]⟩, .int .i64 2]) (by simp [results, Tryd.results76, go_sem, *]) rfl ?_
          exact ⟨2, k, [], rfl, HR.out.below (by (repeat (first | exact Below.refl _ _ | assumption | refine Below.drew ?_ | refine Go.below_drewN ?_ _ | (refine Below.alloc ?_ (by first | exact Nat.le_refl _ | (simp; done) | (simp; omega) | (simp at *; omega)) _) | (refine Below.setCell ?_ (by first | exact Nat.le_refl _ | (simp; done) | (simp; omega)) _) | (refine Below.trans ?_ (Below.mono (by assumption) (by first | exact Nat.le_refl _ | (simp; done) | (simp; omega) | (simp at *; omega))))))), HM.out.call (by (repeat (first | exact Below.refl _ _ | assumption | refine Below.drew ?_ | refine Go.below_drewN ?_ _ | (refine Below.alloc ?_ (by first | exact Nat.le_refl _ | (simp; done) | (simp; omega) | (simp at *; omega)) _) | (refine Below.setCell ?_ (by first | exact Nat.le_refl _ | (simp; done) | (simp; omega)) _) | (refine Below.trans ?_ (Below.mono (by assumption) (by first | exact Nat.le_refl _ | (simp; done) | (simp; omega) | (simp at *; omega))))))), hk, hks, Nat.zero_le _, by omega, .inr ⟨by omega, by rw [HF.out], by rw [HF.out]⟩⟩
        have hb34 : ((s[k].toNat : Int) == 34) = false := by rw [beq_eq_false_iff_ne]; exact h34
        have HN34 : Hid (s[k] ≠ 34) := Lib.hid (fun e => h34 (by rw [e]; rfl))
        clear h34
        by_cases h13 : (s[k].toNat : Int) = 13
        · have hb13 : ((s[k].toNat : Int) == 13) = true := by rw [h13]; rfl
          have HF : Hid (cellG ((bs s).drop k0) k0 = (4, [], k, (bs s).drop k)) := Lib.hid (by rw [HPL.out, HU.out, csvU_step hlt5 HEN.out HN44.out, if_neg HN34.out, if_pos (u8_eq h13)])
          clear h13
          go_wp2
          go_quiet ((go_at_call 77; exact Calls.quiet_of (HER.out _)))
          go_wp2
          go_quiet (fail)
          go_wp2
          refine bodyPost_ret (v := .tuple #[.string ⟨#[]⟩, .int .i64 4]) (by simp [results, Tryd.results76, go_sem, *]) rfl ?_
          exact ⟨4, k, [], rfl, HR.out.below (by (repeat (first | exact Below.refl _ _ | assumption | refine Below.drew ?_ | refine Go.below_drewN ?_ _ | (refine Below.alloc ?_ (by first | exact Nat.le_refl _ | (simp; done) | (simp; omega) | (simp at *; omega)) _) | (refine Below.setCell ?_ (by first | exact Nat.le_refl _ | (simp; done) | (simp; omega)) _) | (refine Below.trans ?_ (Below.mono (by assumption) (by first | exact Nat.le_refl _ | (simp; done) | (simp; omega) | (simp at *; omega))))))), HM.out.call (by (repeat (first | exact Below.refl _ _ | assumption | refine Below.drew ?_ | refine Go.below_drewN ?_ _ | (refine Below.alloc ?_ (by first | exact Nat.le_refl _ | (simp; done) | (simp; omega) | (simp at *; omega)) _) | (refine Below.setCell ?_ (by first | exact Nat.le_refl _ | (simp; done) | (simp; omega)) _) | (refine Below.trans ?_ (Below.mono (by assumption) (by first | exact Nat.le_refl _ | (simp; done) | (simp; omega) | (simp at *; omega))))))), hk, hks, Nat.zero_le _, by omega, .inr ⟨by omega, by rw [HF.out], by rw [HF.out]⟩⟩
        · have hb13 : ((s[k].toNat : Int) == 13) = false := by rw [beq_eq_false_iff_ne]; exact h13
          have HF : Hid (csvU ((bs s).drop k0) k0 [] = csvU ((bs s).drop (k + 1)) (k + 1) (((bs s).take (k + 1)).drop k0)) := Lib.hid (by
            rw [HU.out, csvU_step hlt5 HEN.out HN44.out, if_neg HN34.out, if_neg (fun e => h13 (by rw [e]; rfl)), take_snoc_drop s k0 k hk hlt5])
          clear h13
          go_wp2
          go_quiet ((go_at_call 77; exact Calls.quiet_of (HER.out _)))
          go_wp2
          go_quiet (fail)
          go_wp2
          refine ⟨⟨k + 1, (HR.out.below (by (repeat (first | exact Below.refl _ _ | assumption | refine Below.drew ?_ | refine Go.below_drewN ?_ _ | (refine Below.alloc ?_ (by first | exact Nat.le_refl _ | (simp; done) | (simp; omega) | (simp at *; omega)) _) | (refine Below.setCell ?_ (by first | exact Nat.le_refl _ | (simp; done) | (simp; omega)) _) | (refine Below.trans ?_ (Below.mono (by assumption) (by first | exact Nat.le_refl _ | (simp; done) | (simp; omega) | (simp at *; omega)))))))).set _ _ (by go_num), (HM.out.call (by (repeat (first | exact Below.refl _ _ | assumption | refine Below.drew ?_ | refine Go.below_drewN ?_ _ | (refine Below.alloc ?_ (by first | exact Nat.le_refl _ | (simp; done) | (simp; omega) | (simp at *; omega)) _) | (refine Below.setCell ?_ (by first | exact Nat.le_refl _ | (simp; done) | (simp; omega)) _) | (refine Below.trans ?_ (Below.mono (by assumption) (by first | exact Nat.le_refl _ | (simp; done) | (simp; omega) | (simp at *; omega)))))))).setCell _ _, by omega, by omega, HF.out⟩, ?_⟩
          rw [HR.out.place, ((HR.out.below (by (repeat (first | exact Below.refl _ _ | assumption | refine Below.drew ?_ | refine Go.below_drewN ?_ _ | (refine Below.alloc ?_ (by first | exact Nat.le_refl _ | (simp; done) | (simp; omega) | (simp at *; omega)) _) | (refine Below.setCell ?_ (by first | exact Nat.le_refl _ | (simp; done) | (simp; omega)) _) | (refine Below.trans ?_ (Below.mono (by assumption) (by first | exact Nat.le_refl _ | (simp; done) | (simp; omega) | (simp at *; omega)))))))).set (.int .i64 ((k : Int) + 1)) (k + 1) (by go_num)).place]
          simp [intOf]; omega
      · have hv5 : ¬ eR ((bs s).drop k) < 0 := fun h => hen (eR_neg.1 h)
        have HF : Hid (cellG ((bs s).drop k0) k0 = (0, ((bs s).take k).drop k0, k, (bs s).drop k)) := Lib.hid (by rw [HPL.out, HU.out, csvU_end (.inl hen)])
        obtain ⟨v, hv⟩ : ∃ v, eR ((bs s).drop k) = v := ⟨_, rfl⟩
        rw [hv] at HER hv5
        have hvd : decide (v < 0) = false := by simpa using hv5
        clear hv hen
        go_wp2
        go_quiet ((go_at_call 77; exact Calls.quiet_of (HER.out _)))
        go_wp2
        go_quiet (fail)
        go_wp2
        refine bodyPost_ret (v := .tuple #[.string (s.extract k0 k), .int .i64 0]) (by simp [results, Tryd.results76, go_sem, *]) rfl ?_
        exact ⟨0, k, ((bs s).take k).drop k0, by rw [HX.out]; rfl, HR.out.below (by (repeat (first | exact Below.refl _ _ | assumption | refine Below.drew ?_ | refine Go.below_drewN ?_ _ | (refine Below.alloc ?_ (by first | exact Nat.le_refl _ | (simp; done) | (simp; omega) | (simp at *; omega)) _) | (refine Below.setCell ?_ (by first | exact Nat.le_refl _ | (simp; done) | (simp; omega)) _) | (refine Below.trans ?_ (Below.mono (by assumption) (by first | exact Nat.le_refl _ | (simp; done) | (simp; omega) | (simp at *; omega))))))), HM.out.call (by (repeat (first | exact Below.refl _ _ | assumption | refine Below.drew ?_ | refine Go.below_drewN ?_ _ | (refine Below.alloc ?_ (by first | exact Nat.le_refl _ | (simp; done) | (simp; omega) | (simp at *; omega)) _) | (refine Below.setCell ?_ (by first | exact Nat.le_refl _ | (simp; done) | (simp; omega)) _) | (refine Below.trans ?_ (Below.mono (by assumption) (by first | exact Nat.le_refl _ | (simp; done) | (simp; omega) | (simp at *; omega))))))), hk, hks, HLE.out, by omega, .inl ⟨rfl, HF.out⟩⟩
end Go.Proofs.YthpdmipgnoidpaaDoor

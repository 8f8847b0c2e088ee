/-
  The contract of the reference's CsvRead: the rows of a text in new rows of strings. Conditions: bounds.
-/
import Derived.Test.YthpdmipgnoidpaaDoorCsvCellB
import Derived.Test.YthpdmipgnoidpaaDoorRowVar
namespace Go.Proofs.YthpdmipgnoidpaaDoor
open Go.RowKit
open Go.Lib hiding intOf
set_option linter.unusedVariables false
set_option linter.unusedSimpArgs false

set_option maxRecDepth 20000 in
set_option maxHeartbeats 8000000 in
theorem specCsvRead_any (s : ByteArray) (w : World) (hs : s.size ≤ 1099511627776) :
    Calls Tryd.prog 14 #[.string s] w (RowsPost w (csvT s)) := by
  obtain ⟨is, his, hsz0, hsz1, hsz2⟩ := info_parts infoStr
  obtain ⟨ir, hir, hrz0, hrz1, hrz2⟩ := info_parts infoRow
  go_enter Tryd.func14, Tryd.ntmps14
  go_wp2_with fail
  refine (specFileOk_any s _ hs).mono ?_
  rintro e w1 ⟨rfl, hb1⟩
  have HB1 := Lib.hid hb1
  have HO1 := Lib.hid (ownsRow_below (ownsRow_empty w w.heap.size 60 (Nat.le_refl _)) hb1)
  have hz1 := hb1.size
  have HA1 := Lib.hid ((Below.refl w.heap.size w).alloc (Nat.le_refl _) (.cells #[] 60))
  clear hb1
  cases hk : okF (bs s)
  · have HE := Lib.hid (csvT_no hk)
    go_wp2
    refine bodyPost_ret (v := .tuple #[.slice (some ⟨w.heap.size, 0, none⟩) 0 0, .int .i64 0, .int .i64 1]) (by simp [results, Tryd.results14, go_sem, *]) rfl ?_
    rw [HE.out]
    refine ⟨_, [], rfl, rfl, ⟨HO1.out, fun i hi => by simp at hi, fun i j hi => by simp at hi⟩, HA1.out.trans (HB1.out.mono (by simp))⟩
  have HY := Lib.hid (fun x (h0 : s.size ≠ 0) h => csvT_yes (s := s) (x := x) hk h0 h)
  have HY0 := Lib.hid (fun h0 => csvT_empty (s := s) hk h0)
  have hs4 := okF_size hk
  clear hk
  have hz11 : w.heap.size + 1 ≤ w1.heap.size := by simpa using hz1
  go_wp2
  go_loopw [5, 6] (fun rv av wr => ∃ (k : Nat) (rows : Row3) (Q : List RowQ), av = .int .i64 (k : Int) ∧ k ≤ s.size ∧ OutRows wr (w.heap.size + 1) rv Q wr.heap.size ∧ (Q = [] → rv = .slice (some ⟨w.heap.size, 0, none⟩) 0 0) ∧ ssOf Q = rowsS rows ∧ rows.length ≤ k ∧ Below (w.alloc (.cells #[] 60)).heap.size (w.alloc (.cells #[] 60)) wr ∧
      (k < s.size → ∀ res, CsvR ((bs s).drop k) k [] rows res → CsvR (bs s) 0 [] [] res) ∧ (s.size ≤ k → csvT s = (rows, 0, 0))) (fun _ av _ => s.size - (intOf av).toNat)
  case atStart => exact ⟨0, [], [], rfl, Nat.zero_le _, .inl ⟨rfl, _, rfl⟩, fun _ => rfl, rfl, Nat.zero_le _, HB1.out, fun _ res h => by simpa using h, fun h => HY0.out (by omega)⟩
  case round =>
    obtain ⟨k, rows, Q, rfl, hks, hout, hrv, hss, hrl, hba, hG, hGe⟩ := hrel
    rename World => wo
    have HOUT := Lib.hid hout
    have HSS := Lib.hid hss
    have HBA := Lib.hid hba
    have HG := Lib.hid hG
    have HGE := Lib.hid hGe
    have hQl := ssOf_len hss
    have hwz : w.heap.size + 1 ≤ wo.heap.size := by have := hba.size; simpa using this
    have HFIN : Hid (ssOf Q = rowsS rows ∧ ∀ W, Below wo.heap.size wo W → RowsIn W w.heap.size u5 Q W.heap.size ∧ Below w.heap.size w W) := Lib.hid ⟨hss, fun W hb => by
      have hbW := hba.trans (hb.mono hba.size)
      refine ⟨outRows_post (hout.below hb) (fun h0 => ⟨0, ?_, fun i hi => by simp at hi, fun i j hi => by simp at hi⟩) (by omega), ((Below.refl w.heap.size w).alloc (Nat.le_refl _) _).trans (hbW.mono (by simp))⟩
      rw [hrv h0]
      exact ownsRow_below (ownsRow_empty w w.heap.size 60 (Nat.le_refl _)) hbW⟩
    clear hout hrv hss hba hG hGe
    by_cases hlt : k < s.size
    · have hltI : (k : Int) < s.size := by omega
      obtain ⟨u, hu, hsu, hbu, hcu, hfu⟩ := laid_new wo (.slice none 0 0) 60
      have HV0 := Lib.hid (show RowVar u wo.heap.size (.slice none 0 0) [] from ⟨hcu, hfu, emptyRow _ _ _⟩)
      have HBU := Lib.hid hbu
      have HU := Lib.hid hu
      clear hu hsu hbu hcu hfu
      go_wp2
      rw [HU.out]
      go_loopw [6] (fun av wq => ∃ (k2 : Nat) (cells : List (List UInt8)) (cv : Value), av = .int .i64 (k2 : Int) ∧ k ≤ k2 ∧ k2 ≤ s.size ∧ RowVar wq wo.heap.size cv cells ∧ Below wo.heap.size wo wq ∧ cells.length ≤ 100 ∧ (∀ res, CsvR ((bs s).drop k2) k2 cells rows res → CsvR (bs s) 0 [] [] res)) (fun av _ => s.size - (intOf av).toNat)
      case atStart => exact ⟨k, [], _, rfl, Nat.le_refl _, hks, HV0.out, HBU.out, Nat.zero_le _, HG.out hlt⟩
      case round =>
        rename World => w2
        obtain ⟨k2, cells, cv, rfl, hk2, hk2s, hv, hb2, hcl, hG2⟩ := hrel
        obtain ⟨ca, cc, rfl⟩ := hv.sliceC
        obtain ⟨q, hq⟩ : ∃ q, cells.length = q := ⟨_, rfl⟩
        rw [hq] at hcl hv
        have HV2 := Lib.hid hv
        have HB2 := Lib.hid hb2
        have HG2 := Lib.hid hG2
        have HQ := Lib.hid hq
        have vc := hv.cell
        have vf := hv.free
        have vl := hv.lt
        have HOWN2 := Lib.hid (show w2.ownsRow (wo.heap.size + 1) 9 1 (.slice ca q cc) q ((cells.map ofL).map Value.string) by have := hv.own; rw [hq] at this; exact this)
        have hw2 := hb2.size
        clear hv hb2 hG2 hq
        by_cases h100 : q = 100
        · have hb : ((q : Int) == 100) = true := by rw [h100]; rfl
          have HE : Hid (csvT s = (rows, k2, 5)) := Lib.hid (HY.out _ (by omega) (HG2.out _ (.many (by rw [HQ.out, h100]))))
          clear h100
          go_wp2
          refine bodyPost_ret (v := .tuple #[u5, .int .i64 k2, .int .i64 5]) (by simp [results, Tryd.results14, go_sem, *]) rfl ?_
          rw [HE.out]
          exact ⟨_, Q, rfl, HFIN.out.1, (HFIN.out.2 _ HB2.out).1, (HFIN.out.2 _ HB2.out).2⟩
        have hb : ((q : Int) == 100) = false := by rw [beq_eq_false_iff_ne]; omega
        have HN : Hid (cells.length ≠ 100) := Lib.hid (by rw [HQ.out]; exact h100)
        have hcl2 : q ≤ 99 := by omega
        clear h100
        by_cases hqt : ∃ h : k2 < s.size, s[k2] = 34
        · obtain ⟨hlt2, h34⟩ := hqt
          have hlt2I : (k2 : Int) < s.size := by omega
          have hb34 : ((s[k2].toNat : Int) == 34) = true := by rw [h34]; rfl
          have HC34 := Lib.hid h34
          have HQT := Lib.hid (fun W => l09Quoted_any s (k2 + 1) hs4 (by omega) W)
          have hcast : ((k2 + 1 : Nat) : Int) = (k2 : Int) + 1 := by omega
          rw [hcast] at HQT
          clear h34 hcast
          go_wp2_with fail
          refine (HQT.out _).mono ?_
          rintro e wx ⟨hwx, hp⟩
          obtain rfl := hwx
          rcases hp with ⟨rfl, hno⟩ | ⟨kk, cell, rfl, hkk1, hkk2, hcz, hsome⟩
          · have HE : Hid (csvT s = (rows, s.size, 3)) := Lib.hid (HY.out _ (by omega) (HG2.out _ (by
              have h7 := CsvR.bad (l := (bs s).drop k2) (at' := k2) (rows := rows) HN.out (by rw [cellG_open hlt2 HC34.out hno]; show (3 : Nat) ≠ 0; decide)
              rw [cellG_open hlt2 HC34.out hno] at h7
              exact h7)))
            go_wp2
            refine bodyPost_ret (v := .tuple #[u5, .int .i64 s.size, .int .i64 3]) (by simp [results, Tryd.results14, go_sem, *]) rfl ?_
            rw [HE.out]
            exact ⟨_, Q, rfl, HFIN.out.1, (HFIN.out.2 _ HB2.out).1, (HFIN.out.2 _ HB2.out).2⟩
          · have HGQ := Lib.hid (cellG_quoted hlt2 HC34.out hsome)
            clear hsome
            by_cases hen : endB ((bs s).drop kk) = 0
            · have hkk := endB_size hen
              have hkkI : (kk : Int) < s.size := by omega
              have HEND0 := Lib.hid (fun W => l09End_any s kk hs4 (by omega) W)
              rw [hen] at HEND0
              by_cases h44 : (s[kk].toNat : Int) = 44
              · have hb44 : ((s[kk].toNat : Int) != 44) = false := by simpa using h44
                have HGC : Hid (cellG ((bs s).drop k2) k2 = (0, cell, kk, (bs s).drop kk)) := Lib.hid (by rw [HGQ.out, if_neg (fun h => h.2 ((head_at hkk 44).2 (u8_eq h44)))])
                have hez := hen
                clear h44 hen
                have hcz3 : (ofL cell).size ≤ 4000 := by rw [size_ofL]; omega
                have HEND := Lib.hid (fun W => l09End_any s kk hs4 (by omega) W)
                rw [hez] at HEND
                have HEZ := Lib.hid hez
                clear hez
                by_cases hlong : 1000 < (ofL cell).size
                · have HE : Hid (csvT s = (rows, k2, 6)) := Lib.hid (HY.out _ (by omega) (HG2.out _ (.long HN.out (by rw [HGC.out]) (by rw [HGC.out]; rw [size_ofL] at hlong; exact hlong))))
                  go_wp2_with (go_at_call 40; refine (HEND.out _).mono ?_; rintro e w5 ⟨rfl, rfl⟩)
                  refine bodyPost_ret (v := .tuple #[u5, .int .i64 k2, .int .i64 6]) (by simp [results, Tryd.results14, go_sem, *]) rfl ?_
                  rw [HE.out]
                  exact ⟨_, Q, rfl, HFIN.out.1, (HFIN.out.2 _ HB2.out).1, (HFIN.out.2 _ HB2.out).2⟩
                have HL : Hid (¬ 1000 < (cellG ((bs s).drop k2) k2).2.1.length) := Lib.hid (by rw [HGC.out]; rw [size_ofL] at hlong; exact hlong)
                have HG0 : Hid ((cellG ((bs s).drop k2) k2).1 = 0) := Lib.hid (by rw [HGC.out])
                have HE : Hid (∀ res, CsvR ((bs s).drop (kk + 1)) (kk + 1) (cells ++ [cell]) rows res → CsvR (bs s) 0 [] [] res) := Lib.hid (fun res h => HG2.out _ (.more HN.out HG0.out HL.out (by rw [HGC.out]; exact HEZ.out) (by rw [HGC.out]; simp only [List.drop_drop]; exact h)))
                have HLN : Hid ((cells ++ [cell]).length = q + 1) := Lib.hid (by rw [List.length_append, HQ.out]; rfl)
                go_wp2_with (first | (at_builtin; refine wpList_append_own _ rfl _ _ 58 rfl (wo.heap.size + 1) 9 is (.string .empty) 1 16 Tryd.underlying58 his hsz0 hsz1 hsz2 rfl (by decide) _ _ _ rfl (HOWN2.out.alloc _) ⟨w2.heap.size, 0, none⟩ 1 1 [.string (ofL cell)] rfl rfl (cell_one_new _ _ _) (fun u hu => by simp at hu; subst hu; rfl) (by unfold maxLen; omega) (by omega) (by simp; omega) ?_; intro v3 w3 hown3 hgr3 hnil3; clear hnil3; have HVA := Lib.hid (HV2.out.below ((Below.refl _ _).alloc (Nat.le_refl _) (.cells #[.string (ofL cell)] 9))); have hrow3 : ∀ x, (Value.slice ca q cc).ownBlock = some x → wo.heap.size + 1 ≤ x := (fun x hx => (HOWN2.out.lt x hx).1); obtain ⟨vc3, vf3⟩ := HVA.out.grown hgr3; obtain ⟨a3, c3, rfl⟩ := ownsRow_slice hown3; have HP := Lib.hid (RowVar.push HVA.out hgr3 (by rw [HQ.out]; exact hown3)); have HB3 := Lib.hid (Below.grown (HB2.out.alloc (by omega) (.cells #[.string (ofL cell)] 9)) hgr3 (by simp; omega) (fun x hx => by have := hrow3 x hx; omega)); clear hown3 hgr3 hrow3) | (go_at_call 40; refine (HEND.out _).mono ?_; rintro e w5 ⟨rfl, rfl⟩))
                refine ⟨⟨kk + 1, cells ++ [cell], _, by go_num, by omega, by omega, HP.out, HB3.out.setCell (p := ⟨wo.heap.size, 0, none⟩) (Nat.le_refl _) _, by rw [HLN.out]; omega, HE.out⟩, by simp [intOf]; omega⟩
              · have hb44 : ((s[kk].toNat : Int) != 44) = true := by rw [bne_iff_ne]; exact h44
                have HGB : Hid (cellG ((bs s).drop k2) k2 = (2, [], kk, (bs s).drop kk)) := Lib.hid (by rw [HGQ.out, if_pos ⟨hen, fun h => h44 (by rw [(head_at hkk 44).1 h]; rfl)⟩])
                have HE : Hid (csvT s = (rows, kk, 2)) := Lib.hid (HY.out _ (by omega) (HG2.out _ (by
                  have h7 := CsvR.bad (l := (bs s).drop k2) (at' := k2) (rows := rows) HN.out (by rw [HGB.out]; show (2 : Nat) ≠ 0; decide)
                  rw [HGB.out] at h7
                  exact h7)))
                clear h44 hen
                go_wp2_with (go_at_call 40; refine (HEND0.out _).mono ?_; rintro e w5 ⟨rfl, rfl⟩)
                refine bodyPost_ret (v := .tuple #[u5, .int .i64 kk, .int .i64 2]) (by simp [results, Tryd.results14, go_sem, *]) rfl ?_
                rw [HE.out]
                exact ⟨_, Q, rfl, HFIN.out.1, (HFIN.out.2 _ HB2.out).1, (HFIN.out.2 _ HB2.out).2⟩
            · have HGC : Hid (cellG ((bs s).drop k2) k2 = (0, cell, kk, (bs s).drop kk)) := Lib.hid (by rw [HGQ.out, if_neg (fun h => hen h.1)])
              have hcz3 : (ofL cell).size ≤ 4000 := by rw [size_ofL]; omega
              obtain ⟨m, hm1, hm2, hm3, hm4, hm5⟩ := eR_place hen hkk2
              have HM4 := Lib.hid hm4
              have HM5 := Lib.hid hm5
              have HEN := Lib.hid hen
              have hkm2 : k < m := by
                rcases Nat.lt_or_ge kk s.size with h | h
                · have := (hm5 h).1; omega
                · omega
              have hmin : min (s.size : Int) ((kk : Int) + (endB ((bs s).drop kk) : Int)) = (m : Int) := by
                rcases Nat.lt_or_ge kk s.size with h | h
                · have h1 := (hm5 h).2
                  omega
                · have h1 := endB_nine.2 h
                  omega
              have hle9 := endB_le ((bs s).drop kk)
              have HEND := Lib.hid (fun W => l09End_any s kk hs4 (by omega) W)
              obtain ⟨e9, he9⟩ : ∃ e9, endB ((bs s).drop kk) = e9 := ⟨_, rfl⟩
              rw [he9] at HEND hmin hle9 hen
              have heb : ((e9 : Int) != 0) = true := by rw [bne_iff_ne]; omega
              have heb0 : ((e9 : Int) == 0) = false := by rw [beq_eq_false_iff_ne]; omega
              clear hm1 hm4 hm5 he9 hen
              by_cases hlong : 1000 < (ofL cell).size
              · have HE : Hid (csvT s = (rows, k2, 6)) := Lib.hid (HY.out _ (by omega) (HG2.out _ (.long HN.out (by rw [HGC.out]) (by rw [HGC.out]; rw [size_ofL] at hlong; exact hlong))))
                go_wp2_with (go_at_call 40; refine (HEND.out _).mono ?_; rintro e w5 ⟨rfl, rfl⟩)
                refine bodyPost_ret (v := .tuple #[u5, .int .i64 k2, .int .i64 6]) (by simp [results, Tryd.results14, go_sem, *]) rfl ?_
                rw [HE.out]
                exact ⟨_, Q, rfl, HFIN.out.1, (HFIN.out.2 _ HB2.out).1, (HFIN.out.2 _ HB2.out).2⟩
              have HL : Hid (¬ 1000 < (cellG ((bs s).drop k2) k2).2.1.length) := Lib.hid (by rw [HGC.out]; rw [size_ofL] at hlong; exact hlong)
              have HG0 : Hid ((cellG ((bs s).drop k2) k2).1 = 0) := Lib.hid (by rw [HGC.out])
              have HE1 : Hid (s.size ≤ m → csvT s = (rows ++ [cells ++ [cell]], 0, 0)) := Lib.hid (fun h => by
                have h7 := CsvR.last (rows := rows) HN.out HG0.out HL.out (by rw [HGC.out]; exact HEN.out) (by rw [HGC.out]; show ((bs s).drop kk).drop _ = []; rw [HM4.out, drop_end s m h])
                rw [HGC.out] at h7
                exact HY.out _ (by omega) (HG2.out _ h7))
              have HE2 : Hid (m < s.size → ∀ res, CsvR ((bs s).drop m) m [] (rows ++ [cells ++ [cell]]) res → CsvR (bs s) 0 [] [] res) := Lib.hid (fun h res hh => by
                have hkm : kk < s.size := by omega
                have h8 := (HM5.out hkm).2
                refine HG2.out _ (.row HN.out HG0.out HL.out (by rw [HGC.out]; exact HEN.out) (by rw [HGC.out]; show ((bs s).drop kk).drop _ ≠ []; rw [HM4.out, bs_drop s m h]; simp) ?_)
                rw [HGC.out]
                show CsvR (((bs s).drop kk).drop (endB ((bs s).drop kk))) (kk + endB ((bs s).drop kk)) [] _ _
                rw [HM4.out, ← h8]
                exact hh)
              go_wp2_with (first | (at_builtin; refine wpList_append_own _ rfl _ _ 58 rfl (wo.heap.size + 1) 9 is (.string .empty) 1 16 Tryd.underlying58 his hsz0 hsz1 hsz2 rfl (by decide) _ _ _ rfl (HOWN2.out.alloc _) ⟨w2.heap.size, 0, none⟩ 1 1 [.string (ofL cell)] rfl rfl (cell_one_new _ _ _) (fun u hu => by simp at hu; subst hu; rfl) (by unfold maxLen; omega) (by omega) (by simp; omega) ?_; intro v3 w3 hown3 hgr3 hnil3; clear hnil3; have HVA := Lib.hid (HV2.out.below ((Below.refl _ _).alloc (Nat.le_refl _) (.cells #[.string (ofL cell)] 9))); have hrow3 : ∀ x, (Value.slice ca q cc).ownBlock = some x → wo.heap.size + 1 ≤ x := (fun x hx => (HOWN2.out.lt x hx).1); obtain ⟨vc3, vf3⟩ := HVA.out.grown hgr3; obtain ⟨a3, c3, rfl⟩ := ownsRow_slice hown3; have HP := Lib.hid (RowVar.push HVA.out hgr3 (by rw [HQ.out]; exact hown3)); have HB3 := Lib.hid (Below.grown (HB2.out.alloc (by omega) (.cells #[.string (ofL cell)] 9)) hgr3 (by simp; omega) (fun x hx => by have := hrow3 x hx; omega)); clear hown3 hgr3 hrow3; have HPA := Lib.hid (HP.out.below ((Below.refl _ _).alloc (Nat.le_refl _) (.cells #[.slice a3 (q + 1) c3] 60))); have HO3 := Lib.hid (show ((w3.setCell ⟨wo.heap.size, 0, none⟩ (.slice a3 (q + 1) c3)).alloc (.cells #[.slice a3 (q + 1) c3] 60)).ownsRow wo.heap.size 9 1 (RowQ.mk a3 (q + 1) c3 ((cells ++ [cell]).map ofL)).v (q + 1) (((cells ++ [cell]).map ofL).map Value.string) from (by have := HPA.out.own; rw [List.length_append, HQ.out] at this; exact ownsRow_base this (by omega))); have HSZ3 := Lib.hid (show w3.heap.size = (w3.setCell ⟨wo.heap.size, 0, none⟩ (.slice a3 (q + 1) c3)).heap.size from (by simp [World.setCell])); have HB3A := Lib.hid ((HB3.out.setCell (p := ⟨wo.heap.size, 0, none⟩) (Nat.le_refl _) (.slice a3 (q + 1) c3)).alloc (by have h7 := HSZ3.out; have h8 := cell_lt vc3; omega) (.cells #[.slice a3 (q + 1) c3] 60))) | (at_builtin; refine wpList_push_row rfl _ _ 22 rfl (w.heap.size + 1) wo.heap.size ir (.agg #[.slice none 0 0]) 24 Tryd.underlying22 hir hrz0 hrz1 hrz2 rfl u5 Q Q.length rfl rfl (OutRows.below HOUT.out HB3A.out) ⟨a3, q + 1, c3, (cells ++ [cell]).map ofL⟩ HO3.out (Nat.succ_pos _) hwz ⟨_, 0, none⟩ 1 rfl (one_at _ _ _ _ HSZ3.out) (by unfold maxLen; omega) (by omega) (Nat.le_trans hwz HB3A.out.size) ?_; intro v4 w4 hin4 hb4; have HIN4 := Lib.hid hin4; have HB4 := Lib.hid ((HBA.out.trans (HB3A.out.mono (by simpa using hwz))).trans (hb4.mono (by simp))); clear hin4 hb4) | (go_at_call 40; refine (HEND.out _).mono ?_; rintro e w5 ⟨rfl, rfl⟩))
              refine ⟨⟨m, rows ++ [cells ++ [cell]], Q ++ [⟨a3, q + 1, c3, (cells ++ [cell]).map ofL⟩], rfl, hm3, .inr HIN4.out, fun h => by simp at h, by rw [ssOf_snoc, rowsS_snoc, HSS.out], by rw [List.length_append]; simp; omega, HB4.out, HE2.out, HE1.out⟩, by simp [intOf]; omega⟩
        have HPL := Lib.hid (cellG_plain (s := s) (k := k2) (fun h e => hqt ⟨h, e⟩))
        have hbq : (¬ (k2 : Int) < s.size) ∨ ∃ h : k2 < s.size, ((s[k2].toNat : Int) == 34) = false := by
          by_cases hlt2 : k2 < s.size
          · exact .inr ⟨hlt2, by rw [beq_eq_false_iff_ne]; exact fun e => hqt ⟨hlt2, u8_eq e⟩⟩
          · exact .inl (by omega)
        clear hqt
        rcases hbq with hbq | ⟨hlt2, hbq⟩
        all_goals
          (try have hlt2I : (k2 : Int) < s.size := by omega)
          go_wp2
          go_loop [6] (fun av => ∃ k3 : Nat, k2 ≤ k3 ∧ k3 ≤ s.size ∧ av = .int .i64 (k3 : Int) ∧ csvU ((bs s).drop k2) k2 [] = csvU ((bs s).drop k3) k3 (((bs s).take k3).drop k2)) (fun av => s.size - (intOf av).toNat)
          case atStart => exact ⟨k2, Nat.le_refl _, hk2s, rfl, by rw [show ((bs s).take k2).drop k2 = [] from List.drop_eq_nil_of_le (by rw [List.length_take]; omega)]⟩
          case round =>
            obtain ⟨kk, hkk1, hkk2, rfl, hu⟩ := hrel
            have HU := Lib.hid hu
            have hkkI1 : (k2 : Int) ≤ kk := by omega
            have hkkI2 : (kk : Int) ≤ s.size := by omega
            have HTS := Lib.hid (fun h => take_snoc_drop s k2 kk hkk1 h)
            obtain ⟨cell, hcell⟩ : ∃ cell, ((bs s).take kk).drop k2 = cell := ⟨_, rfl⟩
            have hX : s.extract k2 kk = ofL cell := by rw [cut_ofL, hcell]
            have hcz : cell.length ≤ s.size := by rw [← hcell]; exact cut_length s k2 kk
            rw [hcell] at HU HTS
            clear hu hbq hcell
            by_cases hen : endB ((bs s).drop kk) = 0
            · have hkk := endB_size hen
              have hkkI : (kk : Int) < s.size := by omega
              by_cases h44 : (s[kk].toNat : Int) = 44
              · have hb44 : ((s[kk].toNat : Int) != 44) = false := by simpa using h44
                have HGC : Hid (cellG ((bs s).drop k2) k2 = (0, cell, kk, (bs s).drop kk)) := Lib.hid (by rw [HPL.out, HU.out, csvU_end (.inr (fun _ => u8_eq h44))])
                have hez := hen
                clear h44 hen
                have hcz3 : (ofL cell).size ≤ 4000 := by rw [size_ofL]; omega
                have HEND := Lib.hid (fun W => l09End_any s kk hs4 (by omega) W)
                rw [hez] at HEND
                have HEZ := Lib.hid hez
                clear hez
                by_cases hlong : 1000 < (ofL cell).size
                · have HE : Hid (csvT s = (rows, k2, 6)) := Lib.hid (HY.out _ (by omega) (HG2.out _ (.long HN.out (by rw [HGC.out]) (by rw [HGC.out]; rw [size_ofL] at hlong; exact hlong))))
                  go_wp2_with (go_at_call 40; refine (HEND.out _).mono ?_; rintro e w5 ⟨rfl, rfl⟩)
                  refine bodyPost_ret (v := .tuple #[u5, .int .i64 k2, .int .i64 6]) (by simp [results, Tryd.results14, go_sem, *]) rfl ?_
                  rw [HE.out]
                  exact ⟨_, Q, rfl, HFIN.out.1, (HFIN.out.2 _ HB2.out).1, (HFIN.out.2 _ HB2.out).2⟩
                have HL : Hid (¬ 1000 < (cellG ((bs s).drop k2) k2).2.1.length) := Lib.hid (by rw [HGC.out]; rw [size_ofL] at hlong; exact hlong)
                have HG0 : Hid ((cellG ((bs s).drop k2) k2).1 = 0) := Lib.hid (by rw [HGC.out])
                have HE : Hid (∀ res, CsvR ((bs s).drop (kk + 1)) (kk + 1) (cells ++ [cell]) rows res → CsvR (bs s) 0 [] [] res) := Lib.hid (fun res h => HG2.out _ (.more HN.out HG0.out HL.out (by rw [HGC.out]; exact HEZ.out) (by rw [HGC.out]; simp only [List.drop_drop]; exact h)))
                have HLN : Hid ((cells ++ [cell]).length = q + 1) := Lib.hid (by rw [List.length_append, HQ.out]; rfl)
                go_wp2_with (first | (at_builtin; refine wpList_append_own _ rfl _ _ 58 rfl (wo.heap.size + 1) 9 is (.string .empty) 1 16 Tryd.underlying58 his hsz0 hsz1 hsz2 rfl (by decide) _ _ _ rfl (HOWN2.out.alloc _) ⟨w2.heap.size, 0, none⟩ 1 1 [.string (ofL cell)] rfl rfl (cell_one_new _ _ _) (fun u hu => by simp at hu; subst hu; rfl) (by unfold maxLen; omega) (by omega) (by simp; omega) ?_; intro v3 w3 hown3 hgr3 hnil3; clear hnil3; have HVA := Lib.hid (HV2.out.below ((Below.refl _ _).alloc (Nat.le_refl _) (.cells #[.string (ofL cell)] 9))); have hrow3 : ∀ x, (Value.slice ca q cc).ownBlock = some x → wo.heap.size + 1 ≤ x := (fun x hx => (HOWN2.out.lt x hx).1); obtain ⟨vc3, vf3⟩ := HVA.out.grown hgr3; obtain ⟨a3, c3, rfl⟩ := ownsRow_slice hown3; have HP := Lib.hid (RowVar.push HVA.out hgr3 (by rw [HQ.out]; exact hown3)); have HB3 := Lib.hid (Below.grown (HB2.out.alloc (by omega) (.cells #[.string (ofL cell)] 9)) hgr3 (by simp; omega) (fun x hx => by have := hrow3 x hx; omega)); clear hown3 hgr3 hrow3) | (go_at_call 40; refine (HEND.out _).mono ?_; rintro e w5 ⟨rfl, rfl⟩))
                refine ⟨⟨kk + 1, cells ++ [cell], _, by go_num, by omega, by omega, HP.out, HB3.out.setCell (p := ⟨wo.heap.size, 0, none⟩) (Nat.le_refl _) _, by rw [HLN.out]; omega, HE.out⟩, by simp [intOf]; omega⟩
              have hb44 : ((s[kk].toNat : Int) != 44) = true := by rw [bne_iff_ne]; exact h44
              have HN44 : Hid (s[kk] ≠ 44) := Lib.hid (fun e => h44 (by rw [e]; rfl))
              have HEND := Lib.hid (fun W => l09End_any s kk hs4 (by omega) W)
              rw [hen] at HEND
              have HEN := Lib.hid hen
              clear h44 hen
              by_cases h34 : (s[kk].toNat : Int) = 34
              · have hb34 : ((s[kk].toNat : Int) == 34) = true := by rw [h34]; rfl
                have HGB : Hid (cellG ((bs s).drop k2) k2 = (2, [], kk, (bs s).drop kk)) := Lib.hid (by rw [HPL.out, HU.out, csvU_step hkk HEN.out HN44.out, if_pos (u8_eq h34)])
                have HE : Hid (csvT s = (rows, kk, 2)) := Lib.hid (HY.out _ (by omega) (HG2.out _ (by
                  have h7 := CsvR.bad (l := (bs s).drop k2) (at' := k2) (rows := rows) HN.out (by rw [HGB.out]; show (2 : Nat) ≠ 0; decide)
                  rw [HGB.out] at h7
                  exact h7)))
                clear h34
                go_wp2_with (go_at_call 40; refine (HEND.out _).mono ?_; rintro e w5 ⟨rfl, rfl⟩)
                refine bodyPost_ret (v := .tuple #[u5, .int .i64 kk, .int .i64 2]) (by simp [results, Tryd.results14, go_sem, *]) rfl ?_
                rw [HE.out]
                exact ⟨_, Q, rfl, HFIN.out.1, (HFIN.out.2 _ HB2.out).1, (HFIN.out.2 _ HB2.out).2⟩
              have hb34 : ((s[kk].toNat : Int) == 34) = false := by rw [beq_eq_false_iff_ne]; exact h34
              have HN34 : Hid (s[kk] ≠ 34) := Lib.hid (fun e => h34 (by rw [e]; rfl))
              clear h34
              by_cases h13 : (s[kk].toNat : Int) = 13
              · have hb13 : ((s[kk].toNat : Int) == 13) = true := by rw [h13]; rfl
                have HGB : Hid (cellG ((bs s).drop k2) k2 = (4, [], kk, (bs s).drop kk)) := Lib.hid (by rw [HPL.out, HU.out, csvU_step hkk HEN.out HN44.out, if_neg HN34.out, if_pos (u8_eq h13)])
                have HE : Hid (csvT s = (rows, kk, 4)) := Lib.hid (HY.out _ (by omega) (HG2.out _ (by
                  have h7 := CsvR.bad (l := (bs s).drop k2) (at' := k2) (rows := rows) HN.out (by rw [HGB.out]; show (4 : Nat) ≠ 0; decide)
                  rw [HGB.out] at h7
                  exact h7)))
                clear h13
                go_wp2_with (go_at_call 40; refine (HEND.out _).mono ?_; rintro e w5 ⟨rfl, rfl⟩)
                refine bodyPost_ret (v := .tuple #[u5, .int .i64 kk, .int .i64 4]) (by simp [results, Tryd.results14, go_sem, *]) rfl ?_
                rw [HE.out]
                exact ⟨_, Q, rfl, HFIN.out.1, (HFIN.out.2 _ HB2.out).1, (HFIN.out.2 _ HB2.out).2⟩
              · have hb13 : ((s[kk].toNat : Int) == 13) = false := by rw [beq_eq_false_iff_ne]; exact h13
                have HF : Hid (csvU ((bs s).drop k2) k2 [] = csvU ((bs s).drop (kk + 1)) (kk + 1) (((bs s).take (kk + 1)).drop k2)) := Lib.hid (by
                  rw [HU.out, csvU_step hkk HEN.out HN44.out, if_neg HN34.out, if_neg (fun e => h13 (by rw [e]; rfl)), HTS.out hkk])
                clear h13
                go_wp2_with (go_at_call 40; refine (HEND.out _).mono ?_; rintro e w5 ⟨rfl, rfl⟩)
                go_round
                case rel => exact ⟨kk + 1, by omega, by omega, by go_num, HF.out⟩
                case measure => simp [intOf]; omega
            · have HGC : Hid (cellG ((bs s).drop k2) k2 = (0, cell, kk, (bs s).drop kk)) := Lib.hid (by rw [HPL.out, HU.out, csvU_end (.inl hen)])
              have hcz3 : (ofL cell).size ≤ 4000 := by rw [size_ofL]; omega
              obtain ⟨m, hm1, hm2, hm3, hm4, hm5⟩ := eR_place hen hkk2
              have HM4 := Lib.hid hm4
              have HM5 := Lib.hid hm5
              have HEN := Lib.hid hen
              have hkm2 : k < m := by
                rcases Nat.lt_or_ge kk s.size with h | h
                · have := (hm5 h).1; omega
                · omega
              have hmin : min (s.size : Int) ((kk : Int) + (endB ((bs s).drop kk) : Int)) = (m : Int) := by
                rcases Nat.lt_or_ge kk s.size with h | h
                · have h1 := (hm5 h).2
                  omega
                · have h1 := endB_nine.2 h
                  omega
              have hle9 := endB_le ((bs s).drop kk)
              have HEND := Lib.hid (fun W => l09End_any s kk hs4 (by omega) W)
              obtain ⟨e9, he9⟩ : ∃ e9, endB ((bs s).drop kk) = e9 := ⟨_, rfl⟩
              rw [he9] at HEND hmin hle9 hen
              have heb : ((e9 : Int) != 0) = true := by rw [bne_iff_ne]; omega
              have heb0 : ((e9 : Int) == 0) = false := by rw [beq_eq_false_iff_ne]; omega
              clear hm1 hm4 hm5 he9 hen
              by_cases hlong : 1000 < (ofL cell).size
              · have HE : Hid (csvT s = (rows, k2, 6)) := Lib.hid (HY.out _ (by omega) (HG2.out _ (.long HN.out (by rw [HGC.out]) (by rw [HGC.out]; rw [size_ofL] at hlong; exact hlong))))
                go_wp2_with (go_at_call 40; refine (HEND.out _).mono ?_; rintro e w5 ⟨rfl, rfl⟩)
                refine bodyPost_ret (v := .tuple #[u5, .int .i64 k2, .int .i64 6]) (by simp [results, Tryd.results14, go_sem, *]) rfl ?_
                rw [HE.out]
                exact ⟨_, Q, rfl, HFIN.out.1, (HFIN.out.2 _ HB2.out).1, (HFIN.out.2 _ HB2.out).2⟩
              have HL : Hid (¬ 1000 < (cellG ((bs s).drop k2) k2).2.1.length) := Lib.hid (by rw [HGC.out]; rw [size_ofL] at hlong; exact hlong)
              have HG0 : Hid ((cellG ((bs s).drop k2) k2).1 = 0) := Lib.hid (by rw [HGC.out])
              have HE1 : Hid (s.size ≤ m → csvT s = (rows ++ [cells ++ [cell]], 0, 0)) := Lib.hid (fun h => by
                have h7 := CsvR.last (rows := rows) HN.out HG0.out HL.out (by rw [HGC.out]; exact HEN.out) (by rw [HGC.out]; show ((bs s).drop kk).drop _ = []; rw [HM4.out, drop_end s m h])
                rw [HGC.out] at h7
                exact HY.out _ (by omega) (HG2.out _ h7))
              have HE2 : Hid (m < s.size → ∀ res, CsvR ((bs s).drop m) m [] (rows ++ [cells ++ [cell]]) res → CsvR (bs s) 0 [] [] res) := Lib.hid (fun h res hh => by
                have hkm : kk < s.size := by omega
                have h8 := (HM5.out hkm).2
                refine HG2.out _ (.row HN.out HG0.out HL.out (by rw [HGC.out]; exact HEN.out) (by rw [HGC.out]; show ((bs s).drop kk).drop _ ≠ []; rw [HM4.out, bs_drop s m h]; simp) ?_)
                rw [HGC.out]
                show CsvR (((bs s).drop kk).drop (endB ((bs s).drop kk))) (kk + endB ((bs s).drop kk)) [] _ _
                rw [HM4.out, ← h8]
                exact hh)
              go_wp2_with (first | (at_builtin; refine wpList_append_own _ rfl _ _ 58 rfl (wo.heap.size + 1) 9 is (.string .empty) 1 16 Tryd.underlying58 his hsz0 hsz1 hsz2 rfl (by decide) _ _ _ rfl (HOWN2.out.alloc _) ⟨w2.heap.size, 0, none⟩ 1 1 [.string (ofL cell)] rfl rfl (cell_one_new _ _ _) (fun u hu => by simp at hu; subst hu; rfl) (by unfold maxLen; omega) (by omega) (by simp; omega) ?_; intro v3 w3 hown3 hgr3 hnil3; clear hnil3; have HVA := Lib.hid (HV2.out.below ((Below.refl _ _).alloc (Nat.le_refl _) (.cells #[.string (ofL cell)] 9))); have hrow3 : ∀ x, (Value.slice ca q cc).ownBlock = some x → wo.heap.size + 1 ≤ x := (fun x hx => (HOWN2.out.lt x hx).1); obtain ⟨vc3, vf3⟩ := HVA.out.grown hgr3; obtain ⟨a3, c3, rfl⟩ := ownsRow_slice hown3; have HP := Lib.hid (RowVar.push HVA.out hgr3 (by rw [HQ.out]; exact hown3)); have HB3 := Lib.hid (Below.grown (HB2.out.alloc (by omega) (.cells #[.string (ofL cell)] 9)) hgr3 (by simp; omega) (fun x hx => by have := hrow3 x hx; omega)); clear hown3 hgr3 hrow3; have HPA := Lib.hid (HP.out.below ((Below.refl _ _).alloc (Nat.le_refl _) (.cells #[.slice a3 (q + 1) c3] 60))); have HO3 := Lib.hid (show ((w3.setCell ⟨wo.heap.size, 0, none⟩ (.slice a3 (q + 1) c3)).alloc (.cells #[.slice a3 (q + 1) c3] 60)).ownsRow wo.heap.size 9 1 (RowQ.mk a3 (q + 1) c3 ((cells ++ [cell]).map ofL)).v (q + 1) (((cells ++ [cell]).map ofL).map Value.string) from (by have := HPA.out.own; rw [List.length_append, HQ.out] at this; exact ownsRow_base this (by omega))); have HSZ3 := Lib.hid (show w3.heap.size = (w3.setCell ⟨wo.heap.size, 0, none⟩ (.slice a3 (q + 1) c3)).heap.size from (by simp [World.setCell])); have HB3A := Lib.hid ((HB3.out.setCell (p := ⟨wo.heap.size, 0, none⟩) (Nat.le_refl _) (.slice a3 (q + 1) c3)).alloc (by have h7 := HSZ3.out; have h8 := cell_lt vc3; omega) (.cells #[.slice a3 (q + 1) c3] 60))) | (at_builtin; refine wpList_push_row rfl _ _ 22 rfl (w.heap.size + 1) wo.heap.size ir (.agg #[.slice none 0 0]) 24 Tryd.underlying22 hir hrz0 hrz1 hrz2 rfl u5 Q Q.length rfl rfl (OutRows.below HOUT.out HB3A.out) ⟨a3, q + 1, c3, (cells ++ [cell]).map ofL⟩ HO3.out (Nat.succ_pos _) hwz ⟨_, 0, none⟩ 1 rfl (one_at _ _ _ _ HSZ3.out) (by unfold maxLen; omega) (by omega) (Nat.le_trans hwz HB3A.out.size) ?_; intro v4 w4 hin4 hb4; have HIN4 := Lib.hid hin4; have HB4 := Lib.hid ((HBA.out.trans (HB3A.out.mono (by simpa using hwz))).trans (hb4.mono (by simp))); clear hin4 hb4) | (go_at_call 40; refine (HEND.out _).mono ?_; rintro e w5 ⟨rfl, rfl⟩))
              refine ⟨⟨m, rows ++ [cells ++ [cell]], Q ++ [⟨a3, q + 1, c3, (cells ++ [cell]).map ofL⟩], rfl, hm3, .inr HIN4.out, fun h => by simp at h, by rw [ssOf_snoc, rowsS_snoc, HSS.out], by rw [List.length_append]; simp; omega, HB4.out, HE2.out, HE1.out⟩, by simp [intOf]; omega⟩
    · have hltI : ¬ (k : Int) < s.size := by omega
      have HE : Hid (csvT s = (rows, 0, 0)) := Lib.hid (HGE.out (by omega))
      go_wp2
      refine bodyPost_ret (v := .tuple #[u5, .int .i64 0, .int .i64 0]) (by simp [results, Tryd.results14, go_sem, *]) rfl ?_
      rw [HE.out]
      exact ⟨_, Q, rfl, HFIN.out.1, (HFIN.out.2 _ (Below.refl _ _)).1, (HFIN.out.2 _ (Below.refl _ _)).2⟩
end Go.Proofs.YthpdmipgnoidpaaDoor

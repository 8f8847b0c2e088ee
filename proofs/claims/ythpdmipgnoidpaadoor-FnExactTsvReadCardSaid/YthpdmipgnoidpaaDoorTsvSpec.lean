/-
  The contract of the reference's TsvRead: the rows of a text in new rows of strings. Conditions: as in the text on Runes.
-/
import Derived.Test.YthpdmipgnoidpaaDoorTsvT
namespace Go.Proofs.YthpdmipgnoidpaaDoor
open Go.RowKit
open Go.Lib hiding intOf
set_option linter.unusedVariables false
set_option linter.unusedSimpArgs false

theorem escB_le (c : UInt8) : (escB c).toNat ≤ 255 := by have := (escB c).toNat_lt; omega
set_option maxRecDepth 10000 in
theorem l10Escaped_any (c : UInt8) (x : Int) (hx : x = (c.toNat : Int)) (w : World) :
    Calls Tryd.prog 33 #[.int .u8 x] w fun e w' => e = .returned (.int .u8 ((escB c).toNat : Int)) ∧ w = w' := by
  have hu := u8_lt c
  have key : ∀ d : UInt8, x = (d.toNat : Int) → c = d := fun d hd => u8_eq (by omega)
  by_cases h1 : x = 116
  · obtain rfl := key 116 h1
    subst h1
    clear key hu hx
    go_enter Tryd.func33, Tryd.ntmps33
    go_wp2
    go_ret
    exact ⟨rfl, rfl⟩
  by_cases h2 : x = 110
  · obtain rfl := key 110 h2
    subst h2
    clear key hu hx
    go_enter Tryd.func33, Tryd.ntmps33
    go_wp2
    go_ret
    exact ⟨rfl, rfl⟩
  by_cases h3 : x = 114
  · obtain rfl := key 114 h3
    subst h3
    clear key hu hx
    go_enter Tryd.func33, Tryd.ntmps33
    go_wp2
    go_ret
    exact ⟨rfl, rfl⟩
  by_cases h4 : x = 92
  · obtain rfl := key 92 h4
    subst h4
    clear key hu hx
    go_enter Tryd.func33, Tryd.ntmps33
    go_wp2
    go_ret
    exact ⟨rfl, rfl⟩
  · have e : escB c = 0 := by
      unfold escB
      rw [if_neg (fun h => h1 (by rw [hx, h]; rfl)), if_neg (fun h => h2 (by rw [hx, h]; rfl)), if_neg (fun h => h3 (by rw [hx, h]; rfl)), if_neg (fun h => h4 (by rw [hx, h]; rfl))]
    rw [e]
    clear hx key hu e
    go_enter Tryd.func33, Tryd.ntmps33
    go_wp2
    go_ret
    exact ⟨rfl, rfl⟩

set_option maxRecDepth 20000 in
set_option maxHeartbeats 4000000 in
theorem specTsvRead_any (s : ByteArray) (w : World) (hs : s.size ≤ 1099511627776) :
    Calls Tryd.prog 9 #[.string s] w (RowsPost w (tsvT s)) := by
  obtain ⟨is, his, hsz0, hsz1, hsz2⟩ := info_parts infoStr
  obtain ⟨ir, hir, hrz0, hrz1, hrz2⟩ := info_parts infoRow
  go_enter Tryd.func9, Tryd.ntmps9
  go_wp2_with fail
  refine (specFileOk_any s _ hs).mono ?_
  rintro e w1 ⟨rfl, hb1⟩
  have HB1 := Lib.hid hb1
  have HO1 := Lib.hid (ownsRow_below (ownsRow_empty w w.heap.size 60 (Nat.le_refl _)) hb1)
  have hz1 := hb1.size
  have HA1 := Lib.hid ((Below.refl w.heap.size w).alloc (Nat.le_refl _) (.cells #[] 60))
  clear hb1
  cases hk : okF (bs s)
  · have HE := Lib.hid (tsvT_no hk)
    go_wp2
    refine bodyPost_ret (v := .tuple #[.slice (some ⟨w.heap.size, 0, none⟩) 0 0, .int .i64 0, .int .i64 1]) (by simp [results, Tryd.results9, go_sem, *]) rfl ?_
    rw [HE.out]
    refine ⟨_, [], rfl, rfl, ⟨HO1.out, fun i hi => by simp at hi, fun i j hi => by simp at hi⟩, HA1.out.trans (HB1.out.mono (by simp))⟩
  have HT := Lib.hid (tsvT_yes hk)
  have hs4 := okF_size hk
  clear hk
  obtain ⟨u, hu, hsu, hbu, hcu, hfu⟩ := laid_new w1 (.slice none 0 0) 60
  have hzA : w1.heap.size = (w.alloc (.cells #[] 60)).heap.size + (w1.heap.size - (w.heap.size + 1)) := by simp at hz1 ⊢; omega
  have HBA := Lib.hid (HB1.out.trans (hbu.mono (by omega)))
  have HCR := Lib.hid (show CurRows u (w1.heap.size + 1) w1.heap.size (.slice (some ⟨w.heap.size, 0, none⟩) 0 0) [] u.heap.size (.slice none 0 0) [] [] from
    ⟨.inl ⟨rfl, _, rfl⟩, rfl, hcu, hfu, emptyRow _ _ _, by omega, Nat.le_refl _, by omega⟩)
  have hzA1 : w.heap.size + 1 ≤ w1.heap.size := by simpa using hz1
  have HU := Lib.hid hu
  have HSU := Lib.hid hsu
  clear hzA hbu hcu hfu hz1 hu hsu
  go_wp2
  rw [HU.out]
  go_loopw [5, 7, 8, 9] (fun rv cv fv av wr => ∃ (k fr : Nat) (cell : List UInt8) (cells : List (List UInt8)) (rows : Row3) (Q : List RowQ) (T : Nat) (cvv : Value), av = .int .i64 (k : Int) ∧ fv = .int .i64 (fr : Int) ∧ cv = .string (ofL cell) ∧ fr ≤ k ∧ k ≤ s.size + 1 ∧ (k = s.size + 1 → fr = k ∧ cells = []) ∧ cell.length ≤ k ∧ cells.length ≤ k ∧ rows.length ≤ k ∧
      CurRows wr (w1.heap.size + 1) w1.heap.size rv Q T cvv cells rows ∧ (Q = [] → rv = .slice (some ⟨w.heap.size, 0, none⟩) 0 0) ∧ Below (w.heap.size + 1) (w.alloc (.cells #[] 60)) wr ∧
      tsvG (bs s) 0 0 [] [] [] = tsvG ((bs s).drop k) k fr cell cells rows) (fun _ _ _ av _ => s.size + 2 - (intOf av).toNat)
  case atStart =>
    exact ⟨0, 0, [], [], [], [], u.heap.size, _, rfl, rfl, rfl, Nat.le_refl _, Nat.zero_le _, fun h => by omega, Nat.zero_le _, Nat.zero_le _, Nat.zero_le _, HCR.out, fun _ => rfl, by simpa using HBA.out, by simp⟩
  case round =>
    obtain ⟨k, fr, cell, cells, rows, Q, T, cvv, rfl, rfl, rfl, hfr, hk, hlast, hcl, hcsl, hrl, hcr, hrv, hba, hG⟩ := hrel
    have HFIN := Lib.hid (rows_fin hba hrv hcr hzA1)
    obtain ⟨ca, cc, rfl⟩ := hcr.sliceC
    obtain ⟨q, hq⟩ : ∃ q, cells.length = q := ⟨_, rfl⟩
    have hcell := hcr.cell
    have hfree := hcr.free
    have hclo := hcr.lo
    have hchi := hcr.hi
    have hown := hcr.own
    have HSS := Lib.hid hcr.ss
    have HWZ := Lib.hid (show w.heap.size + 1 ≤ wr.heap.size from Nat.le_trans hzA1 (Nat.le_of_lt (cell_lt hcell)))
    rw [hq] at hcell hcsl hown hcr
    have hcz : (ofL cell).size ≤ 4001 := by rw [size_ofL]; omega
    have HCR := Lib.hid hcr
    have HBA := Lib.hid hba
    have HRV := Lib.hid hrv
    have HQ := Lib.hid hq
    have HOWN := Lib.hid hown
    have HLAST := Lib.hid hlast
    have HT2 := Lib.hid (HT.out.trans hG)
    clear hcr hba hrv hq hlast hown hG
    by_cases hkn : k < s.size
    · have hd := bs_drop s k hkn
      have HD := Lib.hid hd
      have hknI : (k : Int) < s.size := by omega
      clear hd
      by_cases hm : k = fr ∧ q = 100
      · obtain ⟨rfl, h100⟩ := hm
        have hb100 : ((q : Int) == 100) = true := by rw [h100]; rfl
        have HE : Hid (tsvT s = (rows, k, 5)) := Lib.hid (by rw [HT2.out, tsvG_endmany (by rw [HQ.out, h100])])
        clear h100
        go_wp2
        refine bodyPost_ret (v := .tuple #[u5, .int .i64 k, .int .i64 5]) (by simp [results, Tryd.results9, go_sem, *]) rfl ?_
        rw [HE.out]
        exact ⟨_, Q, rfl, HFIN.out.1, HFIN.out.2.1, HFIN.out.2.2⟩
      have HM : Hid (¬ (k = fr ∧ cells.length = 100)) := Lib.hid (by rw [HQ.out]; exact hm)
      have hb : ((k : Int) == (fr : Int)) = true → ((q : Int) == 100) = false := fun h => by
        have h1 : (k : Int) = fr := by simpa using h
        rw [beq_eq_false_iff_ne]
        omega
      have HBM := Lib.hid hb
      clear hb hm
      have HU8 := Lib.hid (u8_lt s[k])
      -- BRANCHES
      by_cases h92 : (s[k].toNat : Int) = 92
      · have HC92 : Hid (s[k] = 92) := Lib.hid (u8_eq h92)
        have e9 : ((s[k].toNat : Int) != 9) = true := by rw [h92]; rfl
        have e10 : ((s[k].toNat : Int) != 10) = true := by rw [h92]; rfl
        have e92 : ((s[k].toNat : Int) != 92) = false := by simpa using h92
        clear h92
        by_cases hk1 : k + 1 < s.size
        · have hk1I : (k : Int) + 1 < s.size := by omega
          have HD2 := Lib.hid (bs_drop s (k + 1) hk1)
          obtain ⟨d, hdd⟩ : ∃ d, escB s[k + 1] = d := ⟨_, rfl⟩
          have HDD := Lib.hid hdd
          have HCA := Lib.hid (fun W => l10Escaped_any s[k + 1] (s[k + 1].toNat : Int) rfl W)
          rw [hdd] at HCA
          clear hdd
          by_cases hd0 : d = 0
          · have HE : Hid (tsvT s = (rows, k, 7)) := Lib.hid (by rw [HT2.out, HD.out, HD2.out, HC92.out, tsvG_bad HM.out (by rw [HDD.out, hd0])])
            have hdn : ((d.toNat : Int) == 0) = true := by rw [hd0]; rfl
            clear hd0
            cases hkf : ((k : Int) == (fr : Int))
            all_goals (try have hq1 := HBM.out hkf)
            all_goals
              go_wp2_with (go_at_call 33; refine (HCA.out _).mono ?_; rintro e w2 ⟨rfl, rfl⟩)
              refine bodyPost_ret (v := .tuple #[u5, .int .i64 k, .int .i64 7]) (by simp [results, Tryd.results9, go_sem, *]) rfl ?_
              rw [HE.out]
              exact ⟨_, Q, rfl, HFIN.out.1, HFIN.out.2.1, HFIN.out.2.2⟩
          · have HD0 := Lib.hid hd0
            have hdn : ((d.toNat : Int) == 0) = false := by
              rw [beq_eq_false_iff_ne]
              exact fun h => hd0 (u8_eq (d := 0) h)
            have hconv : (convert 62 9 (.slice (some ⟨wr.heap.size, 0, none⟩) 1 1)).run Tryd.prog (wr.alloc (.cells #[.int .u8 (d.toNat : Int)] 5)) = .ok (.string (ofL [d])) (wr.alloc (.cells #[.int .u8 (d.toNat : Int)] 5)) := by
              refine textOfRow _ _ 1 1 [d] rfl (fun t ht => ?_)
              obtain rfl : t = 0 := by simpa using ht
              rw [List.getElem_cons_zero]
              simp
            have hso : (ofL [d]).size = 1 := rfl
            have HX := Lib.hid (byte_snoc d cell)
            clear hd0
            cases hkf : ((k : Int) == (fr : Int))
            all_goals (try have hq1 := HBM.out hkf)
            all_goals
              go_wp2_with (go_at_call 33; refine (HCA.out _).mono ?_; rintro e w2 ⟨rfl, rfl⟩)
              rw [HX.out]
              refine ⟨⟨k + 2, fr, cell ++ [d], cells, rows, Q, T, _, by go_num, rfl, rfl, by omega, by omega, fun h => by omega, by rw [List.length_append]; simp; omega, by rw [HQ.out]; omega, by omega, HCR.out.below ((Below.refl _ _).alloc (Nat.le_refl _) _), HRV.out, HBA.out.alloc HWZ.out _, ?_⟩, by simp [intOf]; omega⟩
              rw [← HT.out, HT2.out, HD.out, HD2.out, HC92.out, tsvG_esc HM.out (by rw [HDD.out]; exact HD0.out), HDD.out]
        · have HE : Hid (tsvT s = (rows, k, 7)) := Lib.hid (by rw [HT2.out, HD.out, drop_end s (k + 1) (by omega), HC92.out, tsvG_badend HM.out])
          have hk1I : ¬ (k : Int) + 1 < s.size := by omega
          cases hkf : ((k : Int) == (fr : Int))
          all_goals (try have hq1 := HBM.out hkf)
          all_goals
            go_wp2
            refine bodyPost_ret (v := .tuple #[u5, .int .i64 k, .int .i64 7]) (by simp [results, Tryd.results9, go_sem, *]) rfl ?_
            rw [HE.out]
            exact ⟨_, Q, rfl, HFIN.out.1, HFIN.out.2.1, HFIN.out.2.2⟩
      by_cases h9 : (s[k].toNat : Int) = 9
      · have HC9 : Hid (s[k] = 9) := Lib.hid (u8_eq h9)
        have e9 : ((s[k].toNat : Int) != 9) = false := by simpa using h9
        have e10 : ((s[k].toNat : Int) == 10) = false := by rw [h9]; rfl
        have HRL : Hid (Q.length ≤ 4001) := Lib.hid (by rw [ssOf_len HSS.out]; omega)
        clear h9
        cases hkf : ((k : Int) == (fr : Int))
        all_goals (try have hq1 := HBM.out hkf)
        all_goals
          by_cases hlong : 1000 < (ofL cell).size
          · have HL : Hid (1000 < cell.length) := Lib.hid (by rw [size_ofL] at hlong; exact hlong)
            go_wp2
            refine bodyPost_ret (v := .tuple #[u5, .int .i64 fr, .int .i64 6]) (by simp [results, Tryd.results9, go_sem, *]) rfl ?_
            rw [show tsvT s = (rows, fr, 6) by rw [HT2.out, HD.out, tsvG_long HM.out (.inl HC9.out) HL.out]]
            exact ⟨_, Q, rfl, HFIN.out.1, HFIN.out.2.1, HFIN.out.2.2⟩
          have HL : Hid (¬ 1000 < cell.length) := Lib.hid (by rw [size_ofL] at hlong; exact hlong)
          go_wp2_with (at_builtin; refine wpList_append_own _ rfl _ _ 58 rfl T 9 is (.string .empty) 1 16 Tryd.underlying58 his hsz0 hsz1 hsz2 rfl (by decide) _ _ _ rfl (HOWN.out.alloc _) ⟨wr.heap.size, 0, none⟩ 1 1 [.string (ofL cell)] rfl rfl (cell_one_new _ _ _) (fun u hu => by simp at hu; subst hu; rfl) (by unfold maxLen; omega) (by omega) (by simp; omega) ?_; intro v2 w2 hown2 hgr2 hnil2; clear hnil2; obtain ⟨hc2, hf2, ho2, ht2, hb2⟩ := CurRows.grown (HCR.out.below ((Below.refl _ _).alloc (Nat.le_refl _) _)) hgr2; obtain ⟨a2, c2, rfl⟩ := ownsRow_slice hown2; have HP := Lib.hid (CurRows.push (HCR.out.below ((Below.refl _ _).alloc (Nat.le_refl _) _)) hgr2 (by rw [HQ.out]; exact hown2)); have HB2 := Lib.hid ((HBA.out.alloc HWZ.out _).trans (hb2.mono (by omega))); clear hown2 hgr2 ho2 hb2)
          refine ⟨⟨k + 1, k + 1, [], cells ++ [cell], rows, Q, T, _, by go_num, by go_num, rfl, by omega, by omega, fun h => by omega, Nat.zero_le _, by rw [List.length_append, HQ.out]; simp; omega, by omega, HP.out, HRV.out, HB2.out.setCell hzA1 _, ?_⟩, by simp [intOf]; omega⟩
          rw [← HT.out, HT2.out, HD.out, HC9.out, tsvG_tab HM.out HL.out]
      by_cases h10 : (s[k].toNat : Int) = 10
      · have HC10 : Hid (s[k] = 10) := Lib.hid (u8_eq h10)
        have e9 : ((s[k].toNat : Int) != 9) = true := by rw [h10]; rfl
        have e10 : ((s[k].toNat : Int) != 10) = false := by simpa using h10
        have e10' : ((s[k].toNat : Int) == 10) = true := by rw [h10]; rfl
        have HRL : Hid (Q.length ≤ 4001) := Lib.hid (by rw [ssOf_len HSS.out]; omega)
        clear h10
        cases hkf : ((k : Int) == (fr : Int))
        all_goals (try have hq1 := HBM.out hkf)
        all_goals
          by_cases hlong : 1000 < (ofL cell).size
          · have HL : Hid (1000 < cell.length) := Lib.hid (by rw [size_ofL] at hlong; exact hlong)
            go_wp2
            refine bodyPost_ret (v := .tuple #[u5, .int .i64 fr, .int .i64 6]) (by simp [results, Tryd.results9, go_sem, *]) rfl ?_
            rw [show tsvT s = (rows, fr, 6) by rw [HT2.out, HD.out, tsvG_long HM.out (.inr HC10.out) HL.out]]
            exact ⟨_, Q, rfl, HFIN.out.1, HFIN.out.2.1, HFIN.out.2.2⟩
          have HL : Hid (¬ 1000 < cell.length) := Lib.hid (by rw [size_ofL] at hlong; exact hlong)
          go_wp2_with (first | (at_builtin; refine wpList_append_own _ rfl _ _ 58 rfl T 9 is (.string .empty) 1 16 Tryd.underlying58 his hsz0 hsz1 hsz2 rfl (by decide) _ _ _ rfl (HOWN.out.alloc _) ⟨wr.heap.size, 0, none⟩ 1 1 [.string (ofL cell)] rfl rfl (cell_one_new _ _ _) (fun u hu => by simp at hu; subst hu; rfl) (by unfold maxLen; omega) (by omega) (by simp; omega) ?_; intro v2 w2 hown2 hgr2 hnil2; clear hnil2; obtain ⟨hc2, hf2, ho2, ht2, hb2⟩ := CurRows.grown (HCR.out.below ((Below.refl _ _).alloc (Nat.le_refl _) _)) hgr2; obtain ⟨a2, c2, rfl⟩ := ownsRow_slice hown2; have HP := Lib.hid (CurRows.push (HCR.out.below ((Below.refl _ _).alloc (Nat.le_refl _) _)) hgr2 (by rw [HQ.out]; exact hown2)); have HB2 := Lib.hid ((HBA.out.alloc HWZ.out _).trans (hb2.mono (by omega))); clear hown2 hgr2 ho2 hb2; have HPA := Lib.hid (HP.out.below ((Below.refl _ _).alloc (Nat.le_refl _) (.cells #[.slice a2 (q + 1) c2] 60))); have HO3 := Lib.hid (show ((w2.setCell ⟨w1.heap.size, 0, none⟩ (.slice a2 (q + 1) c2)).alloc (.cells #[.slice a2 (q + 1) c2] 60)).ownsRow T 9 1 (RowQ.mk a2 (q + 1) c2 ((cells ++ [cell]).map ofL)).v (q + 1) (((cells ++ [cell]).map ofL).map Value.string) from (by have := HPA.out.own; rw [List.length_append, HQ.out] at this; exact this)); have HSZ3 := Lib.hid (show w2.heap.size = (w2.setCell ⟨w1.heap.size, 0, none⟩ (.slice a2 (q + 1) c2)).heap.size from (by simp [World.setCell])); have HB3 := Lib.hid ((HB2.out.setCell (p := ⟨w1.heap.size, 0, none⟩) hzA1 (.slice a2 (q + 1) c2)).alloc (by have h7 := HSZ3.out; have h8 := cell_lt hc2; omega) (.cells #[.slice a2 (q + 1) c2] 60)); have hrl2 := HRL.out) | (at_builtin; refine wpList_push_row rfl _ _ 22 rfl (w1.heap.size + 1) T ir (.agg #[.slice none 0 0]) 24 Tryd.underlying22 hir hrz0 hrz1 hrz2 rfl u5 Q Q.length rfl rfl HPA.out.out ⟨a2, q + 1, c2, (cells ++ [cell]).map ofL⟩ HO3.out (Nat.succ_pos _) hclo ⟨_, 0, none⟩ 1 rfl (one_at _ _ _ _ HSZ3.out) (by unfold maxLen; omega) (by omega) (Nat.le_trans HPA.out.lo HPA.out.hi) ?_; intro v4 w4 hin4 hb4; have hc4 : w4.cell? ⟨w1.heap.size, 0, none⟩ = some (.slice a2 (q + 1) c2) := (by rw [hb4.cell (p := ⟨w1.heap.size, 0, none⟩) (Nat.lt_succ_self _)]; exact HPA.out.cell); have hf4 : w4.frozen? ⟨w1.heap.size, 0, none⟩ = false := (by rw [hb4.frozen (p := ⟨w1.heap.size, 0, none⟩) (Nat.lt_succ_self _)]; exact HPA.out.free); have HN := Lib.hid (CurRows.next HPA.out hb4 hin4 rfl (by rw [hc4]; rfl)); have HB4 := Lib.hid (HB3.out.trans (hb4.mono (by omega))); clear hin4 hb4))
          refine ⟨⟨k + 1, k + 1, [], [], rows ++ [cells ++ [cell]], Q ++ [⟨a2, q + 1, c2, (cells ++ [cell]).map ofL⟩], w4.heap.size, _, by go_num, by go_num, rfl, by omega, by omega, fun h => by omega, Nat.zero_le _, Nat.zero_le _, by rw [List.length_append]; simp; omega, HN.out, fun h => by simp at h, HB4.out.setCell hzA1 _, ?_⟩, by simp [intOf]; omega⟩
          rw [← HT.out, HT2.out, HD.out, HC10.out, tsvG_nl HM.out HL.out]
      -- END
      have HN9 : Hid (s[k] ≠ 9) := Lib.hid (fun e => h9 (by rw [e]; rfl))
      have HN10 : Hid (s[k] ≠ 10) := Lib.hid (fun e => h10 (by rw [e]; rfl))
      have HN92 : Hid (s[k] ≠ 92) := Lib.hid (fun e => h92 (by rw [e]; rfl))
      have HX := Lib.hid (chr_snoc s k hkn cell)
      have hxz : (s.extract k (k + 1)).size ≤ 1 := by rw [ByteArray.size_extract]; omega
      have e9 : ((s[k].toNat : Int) != 9) = true := by simpa using h9
      have e10 : ((s[k].toNat : Int) != 10) = true := by simpa using h10
      have e92 : ((s[k].toNat : Int) != 92) = true := by simpa using h92
      clear h9 h10 h92
      cases hkf : ((k : Int) == (fr : Int))
      all_goals (try have hq1 := HBM.out hkf)
      all_goals
        go_wp2
        rw [HX.out]
        refine ⟨⟨k + 1, fr, cell ++ [s[k]], cells, rows, Q, T, _, by go_num, rfl, rfl, by omega, by omega, fun h => by omega, by rw [List.length_append]; simp; omega, by rw [HQ.out]; omega, by omega, HCR.out, HRV.out, HBA.out, ?_⟩, by simp [intOf]; omega⟩
        rw [← HT.out, HT2.out, HD.out, tsvG_chr HM.out HN9.out HN10.out HN92.out]
    · -- ATEND
      by_cases hx : fr = k ∧ q = 0
      · obtain ⟨rfl, rfl⟩ := hx
        have hc0 : cells = [] := List.eq_nil_of_length_eq_zero HQ.out
        have HE : Hid (tsvT s = (rows, 0, 0)) := Lib.hid (by rw [HT2.out, drop_end s fr (by omega), hc0, tsvG_nil, if_pos ⟨rfl, rfl⟩])
        have hknI : ¬ (fr : Int) < s.size := by omega
        clear hc0
        go_wp2
        refine bodyPost_ret (v := .tuple #[u5, .int .i64 0, .int .i64 0]) (by simp [results, Tryd.results9, go_sem, *]) rfl ?_
        rw [HE.out]
        exact ⟨_, Q, rfl, HFIN.out.1, HFIN.out.2.1, HFIN.out.2.2⟩
      have hks : k = s.size := by
        rcases Nat.lt_or_ge s.size k with h | h
        · obtain ⟨h1, h2⟩ := HLAST.out (by omega)
          refine absurd ⟨h1, ?_⟩ hx
          have := HQ.out
          rw [h2] at this
          exact this.symm
        · omega
      have HX0 : Hid (¬ (k = fr ∧ cells = [])) := Lib.hid (fun h => hx ⟨h.1.symm, by have := HQ.out; rw [h.2] at this; exact this.symm⟩)
      have HD := Lib.hid (drop_end s k (by omega))
      have hknI : ¬ (k : Int) < s.size := by omega
      by_cases hm : k = fr ∧ q = 100
      · obtain ⟨rfl, h100⟩ := hm
        have hb100 : ((q : Int) == 100) = true := by rw [h100]; rfl
        have HE : Hid (tsvT s = (rows, k, 5)) := Lib.hid (by rw [HT2.out, tsvG_endmany (by rw [HQ.out, h100])])
        have hq0 : (0 : Int) < q := by omega
        clear h100 hx hks
        go_wp2
        refine bodyPost_ret (v := .tuple #[u5, .int .i64 k, .int .i64 5]) (by simp [results, Tryd.results9, go_sem, *]) rfl ?_
        rw [HE.out]
        exact ⟨_, Q, rfl, HFIN.out.1, HFIN.out.2.1, HFIN.out.2.2⟩
      have HM : Hid (¬ (k = fr ∧ cells.length = 100)) := Lib.hid (by rw [HQ.out]; exact hm)
      have HBM : Hid (((k : Int) == (fr : Int)) = true → ((q : Int) == 100) = false) := Lib.hid (fun h => by
        have h1 : (k : Int) = fr := by simpa using h
        rw [beq_eq_false_iff_ne]
        omega)
      have HRL : Hid (Q.length ≤ 4001) := Lib.hid (by rw [ssOf_len HSS.out]; omega)
      have HFQ : Hid (¬ (fr : Int) < s.size → (0 : Int) < q) := Lib.hid (fun h => by
        rcases Nat.eq_zero_or_pos q with h0 | h0
        · exact absurd ⟨by omega, h0⟩ hx
        · omega)
      have HKS := Lib.hid hks
      clear hx hks hm
      by_cases hfl : (fr : Int) < s.size
      all_goals (try have hfq := HFQ.out hfl)
      all_goals
        cases hkf : ((k : Int) == (fr : Int))
        all_goals (try have hq1 := HBM.out hkf)
        all_goals
          by_cases hlong : 1000 < (ofL cell).size
          · have HL : Hid (1000 < cell.length) := Lib.hid (by rw [size_ofL] at hlong; exact hlong)
            go_wp2
            refine bodyPost_ret (v := .tuple #[u5, .int .i64 fr, .int .i64 6]) (by simp [results, Tryd.results9, go_sem, *]) rfl ?_
            rw [show tsvT s = (rows, fr, 6) by rw [HT2.out, HD.out, tsvG_endlong HX0.out HM.out HL.out]]
            exact ⟨_, Q, rfl, HFIN.out.1, HFIN.out.2.1, HFIN.out.2.2⟩
          have HL : Hid (¬ 1000 < cell.length) := Lib.hid (by rw [size_ofL] at hlong; exact hlong)
          go_wp2_with (first | (at_builtin; refine wpList_append_own _ rfl _ _ 58 rfl T 9 is (.string .empty) 1 16 Tryd.underlying58 his hsz0 hsz1 hsz2 rfl (by decide) _ _ _ rfl (HOWN.out.alloc _) ⟨wr.heap.size, 0, none⟩ 1 1 [.string (ofL cell)] rfl rfl (cell_one_new _ _ _) (fun u hu => by simp at hu; subst hu; rfl) (by unfold maxLen; omega) (by omega) (by simp; omega) ?_; intro v2 w2 hown2 hgr2 hnil2; clear hnil2; obtain ⟨hc2, hf2, ho2, ht2, hb2⟩ := CurRows.grown (HCR.out.below ((Below.refl _ _).alloc (Nat.le_refl _) _)) hgr2; obtain ⟨a2, c2, rfl⟩ := ownsRow_slice hown2; have HP := Lib.hid (CurRows.push (HCR.out.below ((Below.refl _ _).alloc (Nat.le_refl _) _)) hgr2 (by rw [HQ.out]; exact hown2)); have HB2 := Lib.hid ((HBA.out.alloc HWZ.out _).trans (hb2.mono (by omega))); clear hown2 hgr2 ho2 hb2; have HPA := Lib.hid (HP.out.below ((Below.refl _ _).alloc (Nat.le_refl _) (.cells #[.slice a2 (q + 1) c2] 60))); have HO3 := Lib.hid (show ((w2.setCell ⟨w1.heap.size, 0, none⟩ (.slice a2 (q + 1) c2)).alloc (.cells #[.slice a2 (q + 1) c2] 60)).ownsRow T 9 1 (RowQ.mk a2 (q + 1) c2 ((cells ++ [cell]).map ofL)).v (q + 1) (((cells ++ [cell]).map ofL).map Value.string) from (by have := HPA.out.own; rw [List.length_append, HQ.out] at this; exact this)); have HSZ3 := Lib.hid (show w2.heap.size = (w2.setCell ⟨w1.heap.size, 0, none⟩ (.slice a2 (q + 1) c2)).heap.size from (by simp [World.setCell])); have HB3 := Lib.hid ((HB2.out.setCell (p := ⟨w1.heap.size, 0, none⟩) hzA1 (.slice a2 (q + 1) c2)).alloc (by have h7 := HSZ3.out; have h8 := cell_lt hc2; omega) (.cells #[.slice a2 (q + 1) c2] 60)); have hrl2 := HRL.out) | (at_builtin; refine wpList_push_row rfl _ _ 22 rfl (w1.heap.size + 1) T ir (.agg #[.slice none 0 0]) 24 Tryd.underlying22 hir hrz0 hrz1 hrz2 rfl u5 Q Q.length rfl rfl HPA.out.out ⟨a2, q + 1, c2, (cells ++ [cell]).map ofL⟩ HO3.out (Nat.succ_pos _) hclo ⟨_, 0, none⟩ 1 rfl (one_at _ _ _ _ HSZ3.out) (by unfold maxLen; omega) (by omega) (Nat.le_trans HPA.out.lo HPA.out.hi) ?_; intro v4 w4 hin4 hb4; have hc4 : w4.cell? ⟨w1.heap.size, 0, none⟩ = some (.slice a2 (q + 1) c2) := (by rw [hb4.cell (p := ⟨w1.heap.size, 0, none⟩) (Nat.lt_succ_self _)]; exact HPA.out.cell); have hf4 : w4.frozen? ⟨w1.heap.size, 0, none⟩ = false := (by rw [hb4.frozen (p := ⟨w1.heap.size, 0, none⟩) (Nat.lt_succ_self _)]; exact HPA.out.free); have HN := Lib.hid (CurRows.next HPA.out hb4 hin4 rfl (by rw [hc4]; rfl)); have HB4 := Lib.hid (HB3.out.trans (hb4.mono (by omega))); clear hin4 hb4))
          refine ⟨⟨k + 1, k + 1, [], [], rows ++ [cells ++ [cell]], Q ++ [⟨a2, q + 1, c2, (cells ++ [cell]).map ofL⟩], w4.heap.size, _, by go_num, by go_num, rfl, by omega, by have := HKS.out; omega, fun _ => ⟨rfl, rfl⟩, Nat.zero_le _, Nat.zero_le _, by rw [List.length_append]; simp; omega, HN.out, fun h => by simp at h, HB4.out.setCell hzA1 _, ?_⟩, by have := HKS.out; simp [intOf]; omega⟩
          rw [← HT.out, HT2.out, HD.out, tsvG_endrow HX0.out HM.out HL.out, drop_end s (k + 1) (by have := HKS.out; omega), tsvG_end]
end Go.Proofs.YthpdmipgnoidpaaDoor

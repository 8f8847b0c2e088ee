/-
  The contract of the program's csvRow: a row from where the reader stands. Conditions: bounds; the reader stands in memory ahead of the text's end.
-/
import Derived.Test.YthpdmipgnoidpaaDoorCsvCellB
import Derived.Test.YthpdmipgnoidpaaDoorRowVar
namespace Go.Proofs.YthpdmipgnoidpaaDoor
open Go.RowKit
open Go.Lib hiding intOf
set_option linter.unusedVariables false
set_option linter.unusedSimpArgs false

/-- a row was read from k0 on: where the reader stands, what it means -/
def CRowPost (w : World) (g : Nat) (s : ByteArray) (k0 : Nat) (e : Ending) (w' : World) : Prop :=
  ∃ (code k' : Nat) (cv : Value), e = .returned (.tuple #[.agg #[cv], .int .i64 (code : Int)]) ∧ (Rdr w' g s k' ∧ Mostly g w w') ∧ k0 ≤ k' ∧ k' ≤ s.size ∧ (∃ a l c, cv = .slice a l c) ∧
    ((code = 0 ∧ k0 < k' ∧ ∃ cells, 0 < cells.length ∧ cells.length ≤ 101 ∧ w'.ownsRow w.heap.size 9 1 cv cells.length ((cells.map ofL).map Value.string) ∧ (k' = s.size → ∀ rows, CsvR ((bs s).drop k0) k0 [] rows (rows ++ [cells], 0, 0)) ∧ (k' < s.size → ∀ rows res, CsvR ((bs s).drop k') k' [] (rows ++ [cells]) res → CsvR ((bs s).drop k0) k0 [] rows res)) ∨
     (0 < code ∧ code ≤ 7 ∧ ∀ rows, CsvR ((bs s).drop k0) k0 [] rows (rows, k', code)))

set_option maxRecDepth 20000 in
set_option maxHeartbeats 4000000 in
theorem csvRow_any (g : Nat) (s : ByteArray) (k0 : Nat) (w : World) (h : Rdr w g s k0) (hk0 : k0 < s.size) (hs : s.size ≤ 4000) :
    Calls Tryd.prog 41 #[.pointer (some ⟨g, 0, none⟩)] w (CRowPost w g s k0) := by
  obtain ⟨is, his, hsz0, hsz1, hsz2⟩ := info_parts infoStr
  have hg := h.lt
  obtain ⟨u1, hu1, hs1, hb1, hc1, hf1⟩ := laid_new w (.slice none 0 0) 60
  obtain ⟨u2, hu2, hs2, hb2, hc2, hf2⟩ := laid_new u1 (.slice none 0 0) 60
  rw [hs1] at hc2 hf2
  have hR2 : Rdr u2 g s k0 := (h.below hb1).below hb2
  have HR2 := Lib.hid hR2
  have HM2 := Lib.hid (Mostly.call (Mostly.of_below (p := g) hb1) hb2)
  have HV := Lib.hid (show RowVar u2 (w.heap.size + 1) (.slice none 0 0) [] from ⟨hc2, hf2, emptyRow _ _ _⟩)
  have HU1 := Lib.hid hu1
  have HU2 := Lib.hid hu2
  have HG1 : Hid (u2.cell? ⟨w.heap.size, 0, none⟩ = some (.slice none 0 0) ∧ u2.frozen? ⟨w.heap.size, 0, none⟩ = false) := Lib.hid ⟨by rw [hb2.cell (p := ⟨w.heap.size, 0, none⟩) (by show w.heap.size < _; omega)]; exact hc1, by rw [hb2.frozen (p := ⟨w.heap.size, 0, none⟩) (by show w.heap.size < _; omega)]; exact hf1⟩
  have HS2 : Hid (u2.heap.size = w.heap.size + 2) := Lib.hid (by omega)
  clear h hu1 hu2 hs1 hs2 hb1 hb2 hc1 hf1 hc2 hf2 hR2
  go_enter Tryd.func41, Tryd.ntmps41
  go_wp2
  rw [HU1.out, HU2.out]
  go_loopw [5] (fun _ wr => ∃ (k : Nat) (cells : List (List UInt8)) (cv : Value), (Rdr wr g s k ∧ Mostly g w wr) ∧ RowVar wr (w.heap.size + 1) cv cells ∧ (wr.cell? ⟨w.heap.size, 0, none⟩ = some (.slice none 0 0) ∧ wr.frozen? ⟨w.heap.size, 0, none⟩ = false) ∧ k0 ≤ k ∧ k ≤ s.size ∧ cells.length ≤ 100 ∧ (cells = [] → k = k0) ∧ ∀ rows res, CsvR ((bs s).drop k) k cells rows res → CsvR ((bs s).drop k0) k0 [] rows res) (fun _ wr => s.size - (intOf ((wr.cell? ⟨g, 1, none⟩).getD undef)).toNat)
  case atStart => exact ⟨k0, [], _, ⟨HR2.out, HM2.out⟩, HV.out, HG1.out, Nat.le_refl _, by omega, Nat.zero_le _, fun _ => rfl, fun _ _ h => h⟩
  case round =>
    obtain ⟨k, cells, cv, ⟨hr, hm⟩, hv, ⟨hgc, hgf⟩, hk0k, hks, hcl, hcz, hG⟩ := hrel
    obtain ⟨ca, cc, rfl⟩ := hv.sliceC
    obtain ⟨q, hq⟩ : ∃ q, cells.length = q := ⟨_, rfl⟩
    rw [hq] at hcl hv
    have HR := Lib.hid hr
    have HM := Lib.hid hm
    have HVV := Lib.hid hv
    have HGG := Lib.hid (And.intro hgc hgf)
    have HCZ := Lib.hid hcz
    have HG := Lib.hid hG
    have HQ := Lib.hid hq
    have c0 := hr.text
    have c1 := hr.place
    have f1 := hr.free
    have gl := hr.lt
    have hvc := hv.cell
    have hvf := hv.free
    have hvl := hv.lt
    clear hr hm hv hcz hG hq
    by_cases h100 : q = 100
    · have hb : ((q : Int) == 100) = true := by rw [h100]; rfl
      have HE : Hid (∀ rows, CsvR ((bs s).drop k0) k0 [] rows (rows, k, 5)) := Lib.hid (fun rows => HG.out _ _ (.many (by rw [HQ.out, h100])))
      clear h100
      go_wp2
      refine bodyPost_ret (v := .tuple #[.agg #[.slice none 0 0], .int .i64 5]) (by simp [results, Tryd.results41, go_sem, *]) rfl ?_
      exact ⟨5, k, _, rfl, ⟨HR.out.most (.set _ _ _ _) (by omega), HM.out.setNew _ _ _ (Nat.le_refl _)⟩, hk0k, hks, ⟨_, _, _, rfl⟩, .inr ⟨by omega, by omega, HE.out⟩⟩
    have hb : ((q : Int) == 100) = false := by rw [beq_eq_false_iff_ne]; omega
    have HN : Hid (cells.length ≠ 100) := Lib.hid (by rw [HQ.out]; exact h100)
    have hcl2 : q ≤ 99 := by omega
    have HWR := Lib.hid HM.out.size
    clear h100
    go_wp2_with fail
    refine (csvCell_any g s k _ HR.out hks hs).mono ?_
    rintro e w2 ⟨code, k', cell, rfl, hr2, hm2, hk1, hk2, hcel, hcode7, hpost⟩
    have HR2 := Lib.hid hr2
    have HM2 := Lib.hid (HM.out.trans hm2)
    have HV2 := Lib.hid (HVV.out.most hm2 (by omega))
    have HOWN2 := Lib.hid (show w2.ownsRow (w.heap.size + 1 + 1) 9 1 (.slice ca q cc) q ((cells.map ofL).map Value.string) by have := HV2.out.own; rw [HQ.out] at this; exact this)
    have HG2 := Lib.hid (show w2.cell? ⟨w.heap.size, 0, none⟩ = some (.slice none 0 0) ∧ w2.frozen? ⟨w.heap.size, 0, none⟩ = false from ⟨by rw [hm2.cell (by omega) (by omega)]; exact HGG.out.1, by rw [hm2.frozen (by omega) (by omega)]; exact HGG.out.2⟩)
    have hw2 := hm2.size
    have c02 := hr2.text
    have c12 := hr2.place
    have f12 := hr2.free
    have gl2 := hr2.lt
    have vc2 := HV2.out.cell
    have vf2 := HV2.out.free
    have vl2 := HV2.out.lt
    have gc2 := HG2.out.1
    have gf2 := HG2.out.2
    clear hr2 hm2 hgc hgf hvc hvf c0 c1 f1 gl
    rcases hpost with ⟨rfl, hGc⟩ | ⟨hc0, hGc, hGk⟩
    · have HGC := Lib.hid hGc
      clear hGc
      have hcz3 : (ofL cell).size ≤ 4000 := by rw [size_ofL]; omega
      by_cases hlong : 1000 < (ofL cell).size
      · have HE : Hid (∀ rows, CsvR ((bs s).drop k0) k0 [] rows (rows, k, 6)) := Lib.hid (fun rows => HG.out _ _ (.long HN.out (by rw [HGC.out]) (by rw [HGC.out]; rw [size_ofL] at hlong; exact hlong)))
        go_wp2
        refine bodyPost_ret (v := .tuple #[.agg #[.slice none 0 0], .int .i64 6]) (by simp [results, Tryd.results41, go_sem, *]) rfl ?_
        exact ⟨6, k, _, rfl, ⟨(HR2.out.set _ _ rfl).most (.set _ _ _ _) (by omega), (HM2.out.setCell _ _).setNew _ _ _ (Nat.le_refl _)⟩, hk0k, hks, ⟨_, _, _, rfl⟩, .inr ⟨by omega, by omega, HE.out⟩⟩
      have HL : Hid (¬ 1000 < (cellG ((bs s).drop k) k).2.1.length) := Lib.hid (by rw [HGC.out]; rw [size_ofL] at hlong; exact hlong)
      have HG0 : Hid ((cellG ((bs s).drop k) k).1 = 0) := Lib.hid (by rw [HGC.out])
      go_wp2_with (at_builtin; go_loud (refine wpList_append_own _ rfl _ _ 58 rfl (w.heap.size + 1 + 1) 9 is (.string .empty) 1 16 Tryd.underlying58 his hsz0 hsz1 hsz2 rfl (by decide) _ _ _ rfl (HOWN2.out.alloc _) ⟨w2.heap.size, 0, none⟩ 1 1 [.string (ofL cell)] rfl rfl (cell_one_new _ _ _) (fun u hu => by simp at hu; subst hu; rfl) (by unfold maxLen; omega) (by omega) (by simp; omega) ?_); intro v3 w3 hown3 hgr3 hnil3; go_loud (clear hnil3; have HVA := Lib.hid (HV2.out.below ((Below.refl _ _).alloc (Nat.le_refl _) (.cells #[.string (ofL cell)] 9))); have hrow3 : ∀ x, (Value.slice ca q cc).ownBlock = some x → w.heap.size + 2 ≤ x := (fun x hx => (HOWN2.out.lt x hx).1); obtain ⟨vc3, vf3⟩ := HVA.out.grown hgr3; obtain ⟨a3, c3, rfl⟩ := ownsRow_slice hown3; have HP := Lib.hid (RowVar.push HVA.out hgr3 (by rw [HQ.out]; exact hown3)); have HR3 := Lib.hid (Rdr.grown (HR2.out.below ((Below.refl _ _).alloc (Nat.le_refl _) _)) hgr3 (fun e => by have := hrow3 g e.symm; omega)); have HM3 := Lib.hid (Mostly.grown (HM2.out.call ((Below.refl _ _).alloc (Nat.le_refl _) _)) hgr3 (fun x hx => by have := hrow3 x hx; omega)); have HG3 := Lib.hid (show w3.cell? ⟨w.heap.size, 0, none⟩ = some (.slice none 0 0) ∧ w3.frozen? ⟨w.heap.size, 0, none⟩ = false from ⟨by rw [hgr3.cell_far ⟨w.heap.size, 0, none⟩ (by show w.heap.size < _; simp; omega) (fun e => by have := hrow3 w.heap.size e.symm; omega), Below.cell ((Below.refl w2.heap.size w2).alloc (Nat.le_refl _) _) (p := ⟨w.heap.size, 0, none⟩) (by show w.heap.size < _; omega)]; exact HG2.out.1, by rw [hgr3.frozen_far ⟨w.heap.size, 0, none⟩ (by show w.heap.size < _; simp; omega) (fun e => by have := hrow3 w.heap.size e.symm; omega), Below.frozen ((Below.refl w2.heap.size w2).alloc (Nat.le_refl _) _) (p := ⟨w.heap.size, 0, none⟩) (by show w.heap.size < _; omega)]; exact HG2.out.2⟩); clear hown3 hgr3 hrow3))
      have HR4 := Lib.hid (HR3.out.most (.set _ (w.heap.size + 1) 0 (.slice a3 (q + 1) c3)) (by omega))
      have HM4 := Lib.hid (HM3.out.setNew (w.heap.size + 1) 0 (.slice a3 (q + 1) c3) (by omega))
      have HG4 := Lib.hid (show (w3.setCell ⟨w.heap.size + 1, 0, none⟩ (.slice a3 (q + 1) c3)).cell? ⟨w.heap.size, 0, none⟩ = some (.slice none 0 0) ∧ (w3.setCell ⟨w.heap.size + 1, 0, none⟩ (.slice a3 (q + 1) c3)).frozen? ⟨w.heap.size, 0, none⟩ = false from ⟨by rw [World.cell?_setCell_other _ _ _ _ (by intro e; have := congrArg Addr.block e; simp at this)]; exact HG3.out.1, by rw [World.frozen?_setCell]; exact HG3.out.2⟩)
      obtain ⟨w4, hw4⟩ : ∃ w4, w3.setCell ⟨w.heap.size + 1, 0, none⟩ (.slice a3 (q + 1) c3) = w4 := ⟨_, rfl⟩
      rw [hw4] at HP HR4 HM4 HG4 ⊢
      have c04 := HR4.out.text
      have c14 := HR4.out.place
      have f14 := HR4.out.free
      have gl4 := HR4.out.lt
      have vc4 := HP.out.cell
      have vf4 := HP.out.free
      have vl4 := HP.out.lt
      have gc4 := HG4.out.1
      have gf4 := HG4.out.2
      have HO4 := Lib.hid (show w4.ownsRow (w.heap.size + 1 + 1) 9 1 (.slice a3 (q + 1) c3) (cells ++ [cell]).length (((cells ++ [cell]).map ofL).map Value.string) from HP.out.own)
      have HLN : Hid ((cells ++ [cell]).length = q + 1) := Lib.hid (by rw [List.length_append, HQ.out]; rfl)
      clear hw4 vc3 vf3 c02 c12 f12 vc2 vf2 gc2 gf2
      have HER := Lib.hid (endsRow_any g s k' w4 HR4.out hk2 hs)
      by_cases hen : endB ((bs s).drop k') = 0
      · have hk3 := endB_size hen
        have hv5 : eR ((bs s).drop k') = -1 := by unfold eR; rw [if_pos hen]
        rw [hv5] at HER
        have HE : Hid (∀ rows res, CsvR ((bs s).drop (k' + 1)) (k' + 1) (cells ++ [cell]) rows res → CsvR ((bs s).drop k0) k0 [] rows res) := Lib.hid (fun rows res h => HG.out _ _ (.more HN.out HG0.out HL.out (by rw [HGC.out]; exact hen) (by rw [HGC.out]; simp only [List.drop_drop]; exact h)))
        clear hv5 hen
        go_wp2_with fail
        refine HER.out.mono ?_
        rintro e w5 ⟨rfl, nq, rfl⟩
        go_wp2
        have HR5 := Lib.hid ((HR4.out.below (Go.below_drewN (Below.refl _ _) nq)).set (.int .i64 ((k' : Int) + 1)) (k' + 1) (by go_num))
        have HM5 := Lib.hid ((HM4.out.call (Go.below_drewN (Below.refl _ _) nq)).setCell 1 (.int .i64 ((k' : Int) + 1)))
        have HP5 := Lib.hid ((HP.out.below (Go.below_drewN (Below.refl _ _) nq)).most (.set _ g 1 (.int .i64 ((k' : Int) + 1))) (by omega))
        have HG5 := Lib.hid (show ((w4.drewN nq).setCell ⟨g, 1, none⟩ (.int .i64 ((k' : Int) + 1))).cell? ⟨w.heap.size, 0, none⟩ = some (.slice none 0 0) ∧ ((w4.drewN nq).setCell ⟨g, 1, none⟩ (.int .i64 ((k' : Int) + 1))).frozen? ⟨w.heap.size, 0, none⟩ = false from ⟨by rw [World.cell?_setCell_other _ _ _ _ (by intro e; have := congrArg Addr.block e; simp at this; omega), Below.cell (Go.below_drewN (Below.refl w4.heap.size w4) nq) (p := ⟨w.heap.size, 0, none⟩) (by show w.heap.size < _; omega)]; exact HG4.out.1, by rw [World.frozen?_setCell, Below.frozen (Go.below_drewN (Below.refl w4.heap.size w4) nq) (p := ⟨w.heap.size, 0, none⟩) (by show w.heap.size < _; omega)]; exact HG4.out.2⟩)
        refine ⟨⟨k' + 1, cells ++ [cell], _, ⟨HR5.out, HM5.out⟩, HP5.out, HG5.out, by omega, by omega, by rw [HLN.out]; omega, fun h => by simp at h, HE.out⟩, ?_⟩
        rw [HR.out.place, HR5.out.place]
        simp [intOf]; omega
      · obtain ⟨m, hm1, hm2, hm3, hm4, hm5⟩ := eR_place hen hk2
        have hv5 : ¬ eR ((bs s).drop k') < 0 := fun h => hen (eR_neg.1 h)
        have HE1 : Hid (m = s.size → ∀ rows, CsvR ((bs s).drop k0) k0 [] rows (rows ++ [cells ++ [cell]], 0, 0)) := Lib.hid (fun h rows => by
          have h7 := CsvR.last (rows := rows) HN.out HG0.out HL.out (by rw [HGC.out]; exact hen) (by rw [HGC.out]; show ((bs s).drop k').drop _ = []; rw [hm4, h, drop_end s s.size (Nat.le_refl _)])
          rw [HGC.out] at h7
          exact HG.out _ _ h7)
        have HE2 : Hid (m < s.size → ∀ rows res, CsvR ((bs s).drop m) m [] (rows ++ [cells ++ [cell]]) res → CsvR ((bs s).drop k0) k0 [] rows res) := Lib.hid (fun h rows res hh => by
          have hkm : k' < s.size := by omega
          have h8 := (hm5 hkm).2
          refine HG.out _ _ (.row HN.out HG0.out HL.out (by rw [HGC.out]; exact hen) (by rw [HGC.out]; show ((bs s).drop k').drop _ ≠ []; rw [hm4, bs_drop s m h]; simp) ?_)
          rw [HGC.out]
          show CsvR (((bs s).drop k').drop (endB ((bs s).drop k'))) (k' + endB ((bs s).drop k')) [] _ _
          rw [hm4, ← h8]
          exact hh)
        have hkm2 : k0 < m := by
          rcases Nat.lt_or_ge k' s.size with h | h
          · have := (hm5 h).1; omega
          · omega
        obtain ⟨v, hv⟩ : ∃ v, eR ((bs s).drop k') = v := ⟨_, rfl⟩
        rw [hv] at HER hv5 hm1
        have hv6 : v = (m : Int) - k' := by omega
        subst hv6
        have hvb : (k' : Int) + ((m : Int) - k') = m := by omega
        have hv7 : (0 : Int) ≤ (m : Int) - k' := by omega
        have HVB := Lib.hid hvb
        clear hv hen hm1 hm4 hm5 hv5
        go_wp2_with fail
        refine HER.out.mono ?_
        rintro e w5 ⟨rfl, nq, rfl⟩
        go_wp2
        have HR5 := Lib.hid ((HR4.out.below (Go.below_drewN (Below.refl _ _) nq)).set (.int .i64 (m : Int)) m rfl)
        have HM5 := Lib.hid ((HM4.out.call (Go.below_drewN (Below.refl _ _) nq)).setCell 1 (.int .i64 (m : Int)))
        have HO5 := Lib.hid (Mostly.ownsRow (.set _ g 1 (.int .i64 (m : Int))) (ownsRow_below HO4.out (Go.below_drewN (Below.refl _ _) nq)) (fun e => by have := (HO4.out.lt g e).1; omega))
        refine bodyPost_ret (v := .tuple #[.agg #[.slice a3 (q + 1) c3], .int .i64 0]) (by simp [results, Tryd.results41, go_sem, *]) rfl ?_
        exact ⟨0, m, _, rfl, ⟨HR5.out.most (.set _ _ _ _) (by omega), HM5.out.setNew _ _ _ (Nat.le_refl _)⟩, by omega, hm3, ⟨_, _, _, rfl⟩, .inl ⟨rfl, hkm2, cells ++ [cell], by rw [HLN.out]; omega, by rw [HLN.out]; omega, Mostly.ownsRow (.set _ _ _ _) (ownsRow_base HO5.out (by omega)) (fun e => by have := (HO4.out.lt w.heap.size e).1; omega), HE1.out, HE2.out⟩⟩
    · have HE : Hid (∀ rows, CsvR ((bs s).drop k0) k0 [] rows (rows, k', code)) := Lib.hid (fun rows => by
        have h7 := CsvR.bad (rows := rows) HN.out (by rw [hGc]; exact hc0)
        rw [hGc, hGk] at h7
        exact HG.out _ _ h7)
      have hcb1 : ((code : Int) == 0) = false := by rw [beq_eq_false_iff_ne]; omega
      have hcb2 : ((code : Int) != 0) = true := by rw [bne_iff_ne]; omega
      have hcpos : 0 < code := by omega
      clear hGc hGk
      go_wp2
      refine bodyPost_ret (v := .tuple #[.agg #[.slice none 0 0], .int .i64 code]) (by simp [results, Tryd.results41, go_sem, *]) rfl ?_
      exact ⟨code, k', _, rfl, ⟨HR2.out.most (.set _ _ _ _) (by omega), HM2.out.setNew _ _ _ (Nat.le_refl _)⟩, by omega, hk2, ⟨_, _, _, rfl⟩, .inr ⟨hcpos, hcode7, HE.out⟩⟩
end Go.Proofs.YthpdmipgnoidpaaDoor

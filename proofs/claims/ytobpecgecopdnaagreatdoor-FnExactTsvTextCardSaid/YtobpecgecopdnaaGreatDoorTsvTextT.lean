/-
  The contract of the reference's TsvText. Conditions: bounds.
-/
import Derived.Test.YtobpecgecopdnaaGreatDoorRowTxt
import Derived.Test.YtobpecgecopdnaaGreatDoorTxtAny
import Derived.Test.YtobpecgecopdnaaGreatDoorOwns
import Derived.Test.YtobpecgecopdnaaGreatDoorFill
import Derived.Test.YtobpecgecopdnaaGreatDoorCellS
import Derived.Test.YtobpecgecopdnaaGreatDoorRowsOk
import Derived.Lib.AppendStr
namespace Go.Proofs.YtobpecgecopdnaaGreatDoor
open Go.RowKit
open Go.Lib hiding intOf
set_option linter.unusedVariables false
set_option linter.unusedSimpArgs false

theorem strCells_ofL (l : List UInt8) : Lib.strCells (ofL l) = l.map byteV := rfl
set_option maxRecDepth 20000 in
set_option maxHeartbeats 4000000 in
theorem specTsvText_any (a : Option Addr) (cap n : Nat) (Q : List RowQ) (w : World) (h : RowR w a Q) (hn : Q.length = n) (hl : n ≤ 1048576) (hq : ∀ q ∈ Q, q.l ≤ 1048576 ∧ ∀ s ∈ q.ss, s.size ≤ 1048576) :
    Calls Tryz.prog 5 #[.slice a n cap] w fun e w' => e = .returned (.tuple #[.string (txS (rowsTx 9 clL (ssOf Q))), .bool (txB (rowsTx 9 clL (ssOf Q)))]) ∧ Below w.heap.size w w' := by
  obtain ⟨ib, hib, hbz0, hbz1, hbz2⟩ := info_parts infoByte
  have HR := Lib.hid h
  have HN := Lib.hid hn
  have HQ := Lib.hid hq
  have HRO := Lib.hid (specRowsOk_any a cap n Q w h hn hl hq)
  clear h hn hq
  cases hk : rowsOk (ssOf Q)
  · have HE := Lib.hid (rowsTx_no (sep := 9) (W := clL) hk)
    rw [hk] at HRO
    go_enter Tryz.func5, Tryz.ntmps5
    go_wp2_with fail
    refine HRO.out.mono ?_
    rintro e w1 ⟨rfl, hb1⟩
    go_wp2
    go_ret2
    rw [HE.out]
    exact ⟨rfl, hb1⟩
  have HK := Lib.hid hk
  rw [hk] at HRO
  clear hk
  go_enter Tryz.func5, Tryz.ntmps5
  go_wp2_with fail
  refine HRO.out.mono ?_
  rintro e w1 ⟨rfl, hb1⟩
  have HB1 := Lib.hid hb1
  clear hb1
  have hssl : (ssOf Q).length = n := by unfold ssOf; rw [List.length_map]; exact HN.out
  have HSSL := Lib.hid hssl
  clear hssl
  go_wp2
  go_loopw [4, 5] (fun ov iv wr => ∃ j : Nat, j ≤ n ∧ iv = .int .i64 (j : Int) ∧ wr.ownsRow w1.heap.size 5 1 ov (rowsB 9 clL (ssOf Q) j).length ((rowsB 9 clL (ssOf Q) j).map byteV) ∧ Below w1.heap.size w1 wr ∧ (rowsB 9 clL (ssOf Q) j).length ≤ 4000) (fun _ iv _ => n - (intOf iv).toNat)
  case atStart => exact ⟨0, Nat.zero_le _, rfl, ownsRow_empty _ _ _ (Nat.le_refl _), (Below.refl _ _).alloc (Nat.le_refl _) _, Nat.zero_le _⟩
  case round =>
    obtain ⟨j, hj, rfl, hown, hb, hlen⟩ := hrel
    rename World => wo
    have HB := Lib.hid hb
    have HOW := Lib.hid hown
    have HLEN := Lib.hid hlen
    have hsz := hb.size
    clear hb hown hlen
    by_cases hlt : j < n
    · have hjQ : j < Q.length := by rw [HN.out]; exact hlt
      have hjS : j < (ssOf Q).length := by rw [HSSL.out]; exact hlt
      obtain ⟨hc1, hq1⟩ := HR.out
      rcases hc1 with h0 | ⟨b, off, rfl, hbl2, hc⟩
      · rw [h0] at hjQ; exact absurd hjQ (Nat.not_lt_zero _)
      have hcw := hc j hjQ
      have hqk := hq1 _ (List.getElem_mem hjQ)
      have hrow := rowsOk_at HK.out hjS
      have hss : (ssOf Q)[j] = (Q[j]).ss := by simp [ssOf]
      rw [hss] at hrow
      have hstep : rowsB 9 clL (ssOf Q) (j + 1) = rowsB 9 clL (ssOf Q) j ++ cellsB 9 clL (Q[j]).ss (Q[j]).ss.length ++ [10] := by
        rw [rowsB]; simp [hjS, hss]
      have hbw : Below w.heap.size w wo := HB1.out.trans (HB.out.mono HB1.out.size)
      have hrs := hqk.1
      generalize Q[j] = q at *
      obtain ⟨qa, ql, qc, qss⟩ := q
      simp only [] at hrow hqk hstep hrs
      obtain ⟨_, hql, hqc⟩ := hqk
      have hcq : w.cell? ⟨b, off + j, none⟩ = some (.slice qa ql qc) := hcw
      have HCQ := Lib.hid hcq
      have HSTEP := Lib.hid hstep
      have HROW := Lib.hid hrow.2.2
      have hr1 := hrow.1
      have hr2 := hrow.2.1
      rw [hql] at hr1 hr2 HSTEP
      have HRS := Lib.hid hrs
      have HBW := Lib.hid hbw
      have HQL := Lib.hid hql
      clear hc hcw hss hrow hstep hrs hbw hql hq1 hcq
      obtain ⟨o, ho⟩ : ∃ o, rowsB 9 clL (ssOf Q) j = o := ⟨_, rfl⟩
      rw [ho] at HOW HLEN HSTEP
      clear ho
      go_wp2
      go_loopw [4, 6] (fun ov kv wr => ∃ k : Nat, k ≤ ql ∧ kv = .int .i64 (k : Int) ∧ wr.ownsRow w1.heap.size 5 1 ov (o ++ cellsB 9 clL qss k).length ((o ++ cellsB 9 clL qss k).map byteV) ∧ Below w1.heap.size wo wr) (fun _ kv _ => ql - (intOf kv).toNat)
      case atStart => exact ⟨0, Nat.zero_le _, rfl, by rw [cellsB, List.append_nil]; exact HOW.out, Below.refl _ _⟩
      case round =>
        obtain ⟨k, hk, rfl, hown2, hb2⟩ := hrel
        rename World => wi
        have HB2 := Lib.hid hb2
        have hsz2 := hb2.size
        have hwi : w1.heap.size ≤ wi.heap.size := Nat.le_trans hsz hsz2
        have hbw2 : Below w.heap.size w wi := HBW.out.trans (hb2.mono HB1.out.size)
        have HBW2 := Lib.hid hbw2
        have hcqi : wi.cell? ⟨b, off + j, none⟩ = some (.slice qa ql qc) := by rw [hbw2.cell (p := ⟨b, off + j, none⟩) hbl2]; exact HCQ.out
        have hcb := cellsB_len (sep := 9) (W := clL) (ss := qss) (N := 2002) (fun s hs => by
          have h1 := clL_length (bs s)
          have h2 := okT_len (HROW.out s hs)
          rw [bs_length] at h1
          omega) k (by rw [HQL.out]; exact hk)
        have hkb : k * 2003 ≤ 100 * 2003 := Nat.mul_le_mul_right _ (by omega)
        have hol : (o ++ cellsB 9 clL qss k).length ≤ 300000 := by rw [List.length_append]; have := HLEN.out; omega
        have hbo : b < wi.heap.size := cell_lt hcqi
        obtain ⟨m, hm⟩ : ∃ m, (o ++ cellsB 9 clL qss k).length = m := ⟨_, rfl⟩
        rw [hm] at hown2 hol
        have HOW2 := Lib.hid hown2
        have HM := Lib.hid hm
        clear hb2 hown2 hbw2 hcb hkb hm
        by_cases hk2 : k < ql
        · have hkq : k < qss.length := by rw [HQL.out]; exact hk2
          rcases HRS.out with h0 | ⟨b', off', rfl, hbl', hc'⟩
          · rw [h0] at hkq; exact absurd hkq (Nat.not_lt_zero _)
          have hc0 := hc' k hkq
          rw [getD_getS qss k hkq] at hc0
          rw [← HBW2.out.cell (p := ⟨b', off' + k, none⟩) hbl'] at hc0
          have hok := HROW.out _ (List.getElem_mem hkq)
          have hcbs : cellsB 9 clL qss (k + 1) = cellsB 9 clL qss k ++ (if 0 < k then [9] else []) ++ clL (bs qss[k]) := by rw [cellsB]; simp [hkq]
          have hwl : (clL (bs qss[k])).length ≤ 2002 := by
            have h1 := clL_length (bs qss[k])
            have h2 := okT_len hok
            rw [bs_length] at h1
            omega
          generalize qss[k] = x at *
          have HOKX := Lib.hid hok
          have HCB := Lib.hid hcbs
          have HBX := Lib.hid (show b' < w1.heap.size from Nat.lt_of_lt_of_le hbl' HB1.out.size)
          have HCALL := Lib.hid (fun W => (show Calls Tryz.prog 11 #[.string x] W (fun e w' => e = .returned (.string (ofL (clL (bs x)))) ∧ Below W.heap.size W w') from by have h := specCellText_any x W (by have := okT_len hok; omega); rw [clT_yes hok] at h; exact h))
          clear hc' hok hcbs hkq
          by_cases hk0 : 0 < k
          · have hk0I : (0 : Int) < k := by omega
            go_wp2_with (at_builtin; refine wpList_append_own _ rfl _ _ 35 rfl w1.heap.size 5 ib (.int .u8 0) 1 1 Tryz.underlying35 hib hbz0 hbz1 hbz2 rfl (by decide) _ _ _ rfl (HOW2.out.alloc _) ⟨wi.heap.size, 0, none⟩ 1 1 [.int .u8 9] rfl rfl (cell_one_new _ _ _) (fun u hu => by simp at hu; subst hu; rfl) (by unfold maxLen; omega) (by omega) (by simp; omega) ?_; intro v2 w2 hown2 hgr2 hnil2; clear hnil2; obtain ⟨a2, c2, rfl⟩ := ownsRow_slice hown2; have HO2 := Lib.hid hown2; have HG2 := Lib.hid (Below.grown ((Below.refl w1.heap.size wi).alloc hwi _) hgr2 (by simp; omega) (fun x hx => (HOW2.out.lt x hx).1)); clear hown2 hgr2; have h2lo : w1.heap.size ≤ w2.heap.size := Nat.le_trans hwi HG2.out.size; have hcq2 : w2.cell? ⟨b, off + j, none⟩ = some (.slice (some ⟨b', off', none⟩) ql qc) := (by rw [HG2.out.cell (p := ⟨b, off + j, none⟩) (Nat.lt_of_lt_of_le hbl2 HB1.out.size)]; exact hcqi); have hc02 : w2.cell? ⟨b', off' + k, none⟩ = some (.string x) := (by rw [HG2.out.cell (p := ⟨b', off' + k, none⟩) HBX.out]; exact hc0))
            refine (HCALL.out _).mono ?_
            rintro e w3 ⟨rfl, hb3⟩
            have HB3 := Lib.hid hb3
            clear hb3
            go_wp2_with (at_builtin; refine wpList_append_own_string _ rfl _ _ 35 9 rfl w1.heap.size 5 ib Tryz.underlying35 Tryz.underlying9 hib hbz0 hbz1 hbz2 _ _ _ rfl (ownsRow_below HO2.out HB3.out) (ofL (clL (bs x))) rfl (by rw [size_ofL]; unfold maxLen; omega) (by rw [size_ofL]; omega) (Nat.le_trans h2lo HB3.out.size) ?_; intro v4 w4 hown4 hgr4 hnil4; clear hnil4; obtain ⟨a4, c4, rfl⟩ := ownsRow_slice hown4; have HO4 := Lib.hid hown4; have HG4 := Lib.hid (Below.grown (HB3.out.mono h2lo) hgr4 (Nat.le_trans h2lo HB3.out.size) (fun x hx => (HO2.out.lt x hx).1)); clear hown4 hgr4)
            refine ⟨⟨k + 1, by omega, by go_num, ?_, HB2.out.trans (HG2.out.trans HG4.out)⟩, by simp [intOf]; omega⟩
            have h4 := HO4.out
            rw [size_ofL, strCells_ofL] at h4
            have e1 : (o ++ cellsB 9 clL qss (k + 1)).length = m + 1 + (clL (bs x)).length := by
              have := HM.out
              rw [List.length_append] at this
              rw [HCB.out, if_pos hk0, List.length_append, List.length_append, List.length_append]
              simp only [List.length_cons, List.length_nil]
              omega
            have e2 : (o ++ cellsB 9 clL qss (k + 1)).map byteV = (o ++ cellsB 9 clL qss k).map byteV ++ [.int .u8 9] ++ (clL (bs x)).map byteV := by
              rw [HCB.out, if_pos hk0]; simp [byteV]
            rw [e1, e2]
            exact h4
          · have hk0I : ¬ (0 : Int) < k := by omega
            go_wp2_with fail
            refine (HCALL.out _).mono ?_
            rintro e w3 ⟨rfl, hb3⟩
            have HB3 := Lib.hid hb3
            clear hb3
            go_wp2_with (at_builtin; refine wpList_append_own_string _ rfl _ _ 35 9 rfl w1.heap.size 5 ib Tryz.underlying35 Tryz.underlying9 hib hbz0 hbz1 hbz2 _ _ _ rfl (ownsRow_below HOW2.out HB3.out) (ofL (clL (bs x))) rfl (by rw [size_ofL]; unfold maxLen; omega) (by rw [size_ofL]; omega) (Nat.le_trans hwi HB3.out.size) ?_; intro v4 w4 hown4 hgr4 hnil4; clear hnil4; obtain ⟨a4, c4, rfl⟩ := ownsRow_slice hown4; have HO4 := Lib.hid hown4; have HG4 := Lib.hid (Below.grown (HB3.out.mono hwi) hgr4 (Nat.le_trans hwi HB3.out.size) (fun x hx => (HOW2.out.lt x hx).1)); clear hown4 hgr4)
            refine ⟨⟨k + 1, by omega, by go_num, ?_, HB2.out.trans HG4.out⟩, by simp [intOf]; omega⟩
            have h4 := HO4.out
            rw [size_ofL, strCells_ofL] at h4
            have e1 : (o ++ cellsB 9 clL qss (k + 1)).length = m + (clL (bs x)).length := by
              have := HM.out
              rw [List.length_append] at this
              rw [HCB.out, if_neg hk0, List.length_append, List.length_append, List.length_append]
              simp only [List.length_nil]
              omega
            have e2 : (o ++ cellsB 9 clL qss (k + 1)).map byteV = (o ++ cellsB 9 clL qss k).map byteV ++ (clL (bs x)).map byteV := by
              rw [HCB.out, if_neg hk0]; simp
            rw [e1, e2]
            exact h4
        · obtain rfl : k = ql := by omega
          have HNX : Hid (rowsB 9 clL (ssOf Q) (j + 1) = (o ++ cellsB 9 clL qss k) ++ [10]) := Lib.hid (by rw [HSTEP.out])
          have HNL : Hid ((rowsB 9 clL (ssOf Q) (j + 1)).length = m + 1) := Lib.hid (by rw [HNX.out, List.length_append, HM.out]; rfl)
          have HNM : Hid ((rowsB 9 clL (ssOf Q) (j + 1)).map byteV = (o ++ cellsB 9 clL qss k).map byteV ++ [.int .u8 10]) := Lib.hid (by rw [HNX.out]; simp [byteV])
          by_cases hlong : 4000 < m + 1
          · have HE := Lib.hid (rowsTx_long (sep := 9) (W := clL) (R := ssOf Q) (j := j + 1) (by rw [HSSL.out]; omega) (by rw [HNL.out]; exact hlong))
            have hlongI : (4000 : Int) < (m : Int) + 1 := by omega
            go_wp2_with (at_builtin; refine wpList_append_own _ rfl _ _ 35 rfl w1.heap.size 5 ib (.int .u8 0) 1 1 Tryz.underlying35 hib hbz0 hbz1 hbz2 rfl (by decide) _ _ _ rfl (HOW2.out.alloc _) ⟨wi.heap.size, 0, none⟩ 1 1 [.int .u8 10] rfl rfl (cell_one_new _ _ _) (fun u hu => by simp at hu; subst hu; rfl) (by unfold maxLen; omega) (by omega) (by simp; omega) ?_; intro v2 w2 hown2 hgr2 hnil2; clear hnil2; obtain ⟨a2, c2, rfl⟩ := ownsRow_slice hown2; have HO2 := Lib.hid hown2; have HG2 := Lib.hid (Below.grown ((Below.refl w1.heap.size wi).alloc hwi _) hgr2 (by simp; omega) (fun x hx => (HOW2.out.lt x hx).1)); clear hown2 hgr2)
            go_ret2
            rw [HE.out]
            exact ⟨rfl, HBW2.out.trans (HG2.out.mono HB1.out.size)⟩
          · have hlongI : ¬ (4000 : Int) < (m : Int) + 1 := by omega
            go_wp2_with (at_builtin; refine wpList_append_own _ rfl _ _ 35 rfl w1.heap.size 5 ib (.int .u8 0) 1 1 Tryz.underlying35 hib hbz0 hbz1 hbz2 rfl (by decide) _ _ _ rfl (HOW2.out.alloc _) ⟨wi.heap.size, 0, none⟩ 1 1 [.int .u8 10] rfl rfl (cell_one_new _ _ _) (fun u hu => by simp at hu; subst hu; rfl) (by unfold maxLen; omega) (by omega) (by simp; omega) ?_; intro v2 w2 hown2 hgr2 hnil2; clear hnil2; obtain ⟨a2, c2, rfl⟩ := ownsRow_slice hown2; have HO2 := Lib.hid hown2; have HG2 := Lib.hid (Below.grown ((Below.refl w1.heap.size wi).alloc hwi _) hgr2 (by simp; omega) (fun x hx => (HOW2.out.lt x hx).1)); clear hown2 hgr2)
            refine ⟨⟨j + 1, by omega, by go_num, by rw [HNL.out, HNM.out]; exact HO2.out, (HB.out.trans HB2.out).trans HG2.out, by rw [HNL.out]; omega⟩, by simp [intOf]; omega⟩
    · obtain rfl : j = n := by omega
      have hy := rowsTx_yes (sep := 9) (W := clL) HK.out (by rw [HSSL.out]; exact HLEN.out)
      rw [HSSL.out] at hy
      have HY := Lib.hid hy
      clear hy
      go_wp2_with fail
      rw [textOfAny HOW.out]
      go_wp2
      go_ret2
      rw [HY.out]
      exact ⟨rfl, HB1.out.trans (HB.out.mono HB1.out.size)⟩
end Go.Proofs.YtobpecgecopdnaaGreatDoor

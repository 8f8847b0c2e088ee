/-
  The contract of the program's rowsText: the text of rows, at a sign that parts cells and a function that writes one. Conditions: bounds; the tables of unicode utf8 stand in memory.
-/
import Derived.Test.YtobpecgecopdnaaGreatDoorRowTxt
import Derived.Test.YtobpecgecopdnaaGreatDoorBuilt
namespace Go.Proofs.YtobpecgecopdnaaGreatDoor
open Go.RowKit
open Go.Lib hiding intOf
set_option linter.unusedVariables false
set_option linter.unusedSimpArgs false

theorem builtLen_any (B b : Nat) (l : List UInt8) (w : World) (h : Built B b l w) :
    Calls Tryz.prog 23 #[.pointer (some ⟨b, 0, none⟩)] w fun e w' => e = .returned (.int .i64 (l.length : Int)) ∧ w = w' := by
  refine (Tryz.Builder_Len_f B b (Lib.byteCells l) w h).mono ?_
  rintro e w' ⟨rfl, rfl⟩
  rw [Lib.byteCells_length]
  exact ⟨rfl, rfl⟩
theorem Built.below {B b : Nat} {l : List UInt8} {w w' : World} (h : Built B b l w) (hb : Below w.heap.size w w') : Built B b l w' := by
  have key : ∀ {p : Value}, Lib.BuilderAtF 47 5 B b p (Lib.byteCells l) w → Lib.BuilderAtF 47 5 B b p (Lib.byteCells l) w' := fun {p} h => by
    obtain ⟨hB, v, hbb, hown, hne⟩ := h
    refine ⟨hB, v, (hb.block b (Array.getElem?_eq_some_iff.1 hbb).1).trans hbb, ⟨hown.1, ?_⟩, hne⟩
    rcases hown.2 with hn | ⟨g, cap, cur, fz, hv, hbg, hg, rest⟩
    · exact .inl hn
    · exact .inr ⟨g, cap, cur, fz, hv, hbg, (hb.block g (Array.getElem?_eq_some_iff.1 hg).1).trans hg, rest⟩
  exact h.elim (fun x => .inl (key x)) (fun x => .inr (key x))
/-- what a function that writes a cell must do -/
def Writes (F : Nat) (W : List UInt8 → List UInt8) (w0 : World) : Prop := ∀ (s : ByteArray) (w : World), okT (bs s) = true → Below w0.heap.size w0 w → Calls Tryz.prog F #[.string s] w fun e w' => e = .returned (.string (ofL (W (bs s)))) ∧ Below w.heap.size w w'
set_option maxRecDepth 10000 in
set_option maxHeartbeats 2000000 in
theorem rowsText_any (W : List UInt8 → List UInt8) (hWl : ∀ l, (W l).length ≤ 2 * l.length + 2) (sep : UInt8) (a : Option Addr) (cap n : Nat) (Q : List RowQ) (w : World) (hF : Writes 14 W w) (h : RowR w a Q) (hn : Q.length = n) (hl : n ≤ 1048576) (hq : ∀ q ∈ Q, q.l ≤ 1048576 ∧ ∀ s ∈ q.ss, s.size ≤ 1048576) (hT : Tabs w) :
    Calls Tryz.prog 13 #[.slice a n cap, .string (ofL [sep]), .func (.func 14) #[] #[]] w fun e w' => e = .returned (.tuple #[.string (txS (rowsTx sep W (ssOf Q))), .bool (txB (rowsTx sep W (ssOf Q)))]) ∧ Below w.heap.size w w' := by
  have HF := Lib.hid hF
  have HR := Lib.hid h
  have HN := Lib.hid hn
  have HQ := Lib.hid hq
  have HWL := Lib.hid hWl
  have HRO := Lib.hid (implRowsOk_any a cap n Q w h hn hl hq hT)
  have hsz1 : (ofL [sep]).size = 1 := rfl
  obtain ⟨sp, hsp⟩ : ∃ sp, ofL [sep] = sp := ⟨_, rfl⟩
  have HSP := Lib.hid hsp
  rw [hsp] at hsz1 ⊢
  clear hF h hn hq hT hWl hsp
  cases hk : rowsOk (ssOf Q)
  · have HE := Lib.hid (rowsTx_no (sep := sep) (W := W) hk)
    rw [hk] at HRO
    go_enter Tryz.func13, Tryz.ntmps13
    go_wp2_with fail
    refine HRO.out.mono ?_
    rintro e w1 ⟨rfl, hb1⟩
    go_wp2
    go_ret2
    rw [HE.out]
    exact ⟨rfl, hb1⟩
  have HK := Lib.hid hk
  rw [hk] at HRO
  clear hk
  go_enter Tryz.func13, Tryz.ntmps13
  go_wp2_with fail
  refine HRO.out.mono ?_
  rintro e w1 ⟨rfl, hb1⟩
  have HB1 := Lib.hid hb1
  clear hb1
  have hssl : (ssOf Q).length = n := by unfold ssOf; rw [List.length_map]; exact HN.out
  have HSSL := Lib.hid hssl
  clear hssl
  go_wp2
  go_loopw [18] (fun iv wr => ∃ j : Nat, j ≤ n ∧ iv = .int .i64 (j : Int) ∧ Built w1.heap.size w1.heap.size (rowsB sep W (ssOf Q) j) wr ∧ Below w1.heap.size w1 wr ∧ (rowsB sep W (ssOf Q) j).length ≤ 4000) (fun iv _ => n - (intOf iv).toNat)
  case atStart => exact ⟨0, Nat.zero_le _, rfl, built_new w1, (Below.refl _ _).alloc (Nat.le_refl _) _, Nat.zero_le _⟩
  case round =>
    obtain ⟨j, hj, rfl, hbu, hb, hlen⟩ := hrel
    rename World => wo
    have HB := Lib.hid hb
    have HBU := Lib.hid hbu
    have HLEN := Lib.hid hlen
    have hsz := hb.size
    have hbl := hbu.lt.2
    clear hb hbu hlen
    by_cases hlt : j < n
    · have hjQ : j < Q.length := by rw [HN.out]; exact hlt
      have hjS : j < (ssOf Q).length := by rw [HSSL.out]; exact hlt
      obtain ⟨hc1, hq1⟩ := HR.out
      rcases hc1 with h0 | ⟨b, off, rfl, hbl2, hc⟩
      · rw [h0] at hjQ; exact absurd hjQ (Nat.not_lt_zero _)
      have hcw := hc j hjQ
      have hqk := hq1 _ (List.getElem_mem hjQ)
      have hrow := rowsOk_at HK.out hjS
      have hss : (ssOf Q)[j] = (Q[j]).ss := by simp [ssOf]
      rw [hss] at hrow
      have hstep : rowsB sep W (ssOf Q) (j + 1) = rowsB sep W (ssOf Q) j ++ cellsB sep W (Q[j]).ss (Q[j]).ss.length ++ [10] := by
        rw [rowsB]; simp [hjS, hss]
      have hbw : Below w.heap.size w wo := HB1.out.trans (HB.out.mono HB1.out.size)
      have hcx : wo.cell? ⟨b, off + j, none⟩ = some (Q[j]).v := by rw [hbw.cell (p := ⟨b, off + j, none⟩) hbl2]; exact hcw
      have hrs := hqk.1
      generalize Q[j] = q at *
      obtain ⟨qa, ql, qc, qss⟩ := q
      simp only [] at hrow hqk hstep hrs
      obtain ⟨_, hql, hqc⟩ := hqk
      have hcq : wo.cell? ⟨b, off + j, none⟩ = some (.slice qa ql qc) := hcx
      have HSTEP := Lib.hid hstep
      have HROW := Lib.hid hrow.2.2
      have hr1 := hrow.1
      have hr2 := hrow.2.1
      rw [hql] at hr1 hr2 HSTEP
      have HRS := Lib.hid hrs
      have HBW := Lib.hid hbw
      have HQL := Lib.hid hql
      have hbo : b < wo.heap.size := Nat.lt_of_lt_of_le hbl2 hbw.size
      clear hc hcw hcx hss hrow hstep hrs hbw hql hq1
      obtain ⟨o, ho⟩ : ∃ o, rowsB sep W (ssOf Q) j = o := ⟨_, rfl⟩
      rw [ho] at HBU HLEN HSTEP
      clear ho
      go_wp2
      go_loopw [25] (fun iv wr => ∃ k : Nat, k ≤ ql ∧ iv = .int .i64 (k : Int) ∧ Built w1.heap.size w1.heap.size (o ++ cellsB sep W qss k) wr ∧ Below w1.heap.size wo wr) (fun iv _ => ql - (intOf iv).toNat)
      case atStart => exact ⟨0, Nat.zero_le _, rfl, by rw [cellsB, List.append_nil]; exact HBU.out.below ((Below.refl _ _).alloc (Nat.le_refl _) _), (Below.refl _ _).alloc hsz _⟩
      case round =>
        obtain ⟨k, hk, rfl, hbu2, hb2⟩ := hrel
        rename World => wi
        have HB2 := Lib.hid hb2
        have HBU2 := Lib.hid hbu2
        have hsz2 := hb2.size
        have hwi : w1.heap.size ≤ wi.heap.size := Nat.le_trans hsz hsz2
        have hbw2 : Below w.heap.size w wi := HBW.out.trans (hb2.mono HB1.out.size)
        have HBW2 := Lib.hid hbw2
        have hcb := cellsB_len (sep := sep) (W := W) (ss := qss) (N := 2002) (fun s hs => by
          have h1 := HWL.out (bs s)
          have h2 := okT_len (HROW.out s hs)
          rw [bs_length] at h1
          omega) k (by rw [HQL.out]; exact hk)
        have hkb : k * 2003 ≤ 100 * 2003 := Nat.mul_le_mul_right _ (by omega)
        have hol : (o ++ cellsB sep W qss k).length ≤ 300000 := by rw [List.length_append]; have := HLEN.out; omega
        clear hb2 hbu2 hbw2 hcb hkb
        by_cases hk2 : k < ql
        · have hkq : k < qss.length := by rw [HQL.out]; exact hk2
          have hRS : RowS wi qa qss := HRS.out.below HBW2.out
          rcases hRS with h0 | ⟨b', off', rfl, hbl', hc'⟩
          · rw [h0] at hkq; exact absurd hkq (Nat.not_lt_zero _)
          have hc0 := hc' k hkq
          rw [getD_getS qss k hkq] at hc0
          have hok := HROW.out _ (List.getElem_mem hkq)
          have hcbs : cellsB sep W qss (k + 1) = cellsB sep W qss k ++ (if 0 < k then [sep] else []) ++ W (bs qss[k]) := by rw [cellsB]; simp [hkq]
          have hwl : (W (bs qss[k])).length ≤ 2002 := by
            have h1 := HWL.out (bs qss[k])
            have h2 := okT_len hok
            rw [bs_length] at h1
            omega
          generalize qss[k] = x at *
          have HOKX := Lib.hid hok
          have HCB := Lib.hid hcbs
          clear hc' hok hcbs hkq
          by_cases hk0 : 0 < k
          · have hk0I : (0 : Int) < k := by omega
            go_wp2_with fail
            refine (writeString_any _ _ _ sp _ HBU2.out (by omega) (by omega) hwi).mono ?_
            rintro e w3 ⟨rfl, hbu3, hb3⟩
            have hsb : bs sp = [sep] := by rw [← HSP.out, bs_ofL]
            rw [hsb] at hbu3
            have HBU3 := Lib.hid hbu3
            have HB3 := Lib.hid (hb3)
            clear hbu3 hb3 hsb
            go_wp2_with fail
            refine (HF.out x _ HOKX.out (HBW2.out.trans (HB3.out.mono HB1.out.size))).mono ?_
            rintro e w4 ⟨rfl, hb4⟩
            have HBU4 := Lib.hid (Built.below HBU3.out hb4)
            have HB4 := Lib.hid (HB3.out.trans (hb4.mono (Nat.le_trans hwi HB3.out.size)))
            clear hb4
            go_wp2_with fail
            refine (writeString_any _ _ _ (ofL (W (bs x))) _ HBU4.out (by rw [List.length_append]; simp only [List.length_cons, List.length_nil]; omega) (by rw [size_ofL]; omega) (Nat.le_trans hwi HB4.out.size)).mono ?_
            rintro e w5 ⟨rfl, hbu5, hb5⟩
            rw [bs_ofL] at hbu5
            have HBU5 := Lib.hid hbu5
            have HB5 := Lib.hid ((HB2.out.trans HB4.out).trans hb5)
            clear hbu5 hb5
            go_wp2
            refine ⟨⟨k + 1, by omega, by go_num, ?_, HB5.out⟩, by simp [intOf]; omega⟩
            rw [HCB.out, if_pos hk0]
            simpa only [List.append_assoc, List.nil_append, List.append_nil] using HBU5.out
          · have hk0I : ¬ (0 : Int) < k := by omega
            go_wp2_with fail
            refine (HF.out x _ HOKX.out (HBW2.out)).mono ?_
            rintro e w4 ⟨rfl, hb4⟩
            have HBU4 := Lib.hid (Built.below HBU2.out hb4)
            have HB4 := Lib.hid ((Below.refl w1.heap.size wi).trans (hb4.mono hwi))
            clear hb4
            go_wp2_with fail
            refine (writeString_any _ _ _ (ofL (W (bs x))) _ HBU4.out (by omega) (by rw [size_ofL]; omega) (Nat.le_trans hwi HB4.out.size)).mono ?_
            rintro e w5 ⟨rfl, hbu5, hb5⟩
            rw [bs_ofL] at hbu5
            have HBU5 := Lib.hid hbu5
            have HB5 := Lib.hid ((HB2.out.trans HB4.out).trans hb5)
            clear hbu5 hb5
            go_wp2
            refine ⟨⟨k + 1, by omega, by go_num, ?_, HB5.out⟩, by simp [intOf]; omega⟩
            rw [HCB.out, if_neg hk0]
            simpa only [List.append_assoc, List.nil_append, List.append_nil] using HBU5.out
        · obtain rfl : k = ql := by omega
          have HNX : Hid (rowsB sep W (ssOf Q) (j + 1) = (o ++ cellsB sep W qss k) ++ [10]) := Lib.hid (by rw [HSTEP.out])
          go_wp2_with fail
          refine (writeByte_any _ _ _ 10 10 rfl _ HBU2.out (by omega) hwi).mono ?_
          rintro e w3 ⟨rfl, hbu3, hb3⟩
          rw [← HNX.out] at hbu3
          have HBU3 := Lib.hid hbu3
          have HB3 := Lib.hid ((HB.out.trans (HB2.out.mono (Nat.le_refl _))).trans hb3)
          have hzz : (rowsB sep W (ssOf Q) (j + 1)).length ≤ 400000 := by rw [HNX.out, List.length_append]; simp only [List.length_cons, List.length_nil]; omega
          clear hbu3 hb3
          obtain ⟨o2, ho2⟩ : ∃ o2, rowsB sep W (ssOf Q) (j + 1) = o2 := ⟨_, rfl⟩
          have HLG := Lib.hid (fun h => rowsTx_long (sep := sep) (W := W) (R := ssOf Q) (j := j + 1) (by rw [HSSL.out]; omega) h)
          have HO2 := Lib.hid ho2
          rw [ho2] at HBU3 hzz
          clear ho2
          go_wp2_with fail
          refine (builtLen_any _ _ _ _ HBU3.out).mono ?_
          rintro e w4 ⟨rfl, rfl⟩
          by_cases hlong : 4000 < o2.length
          · have HE := Lib.hid (HLG.out (by rw [HO2.out]; exact hlong))
            go_wp2
            go_ret2
            rw [HE.out]
            exact ⟨rfl, HB1.out.trans (HB3.out.mono HB1.out.size)⟩
          · go_wp2
            refine ⟨⟨j + 1, by omega, by go_num, by rw [HO2.out]; exact HBU3.out, HB3.out, by rw [HO2.out]; omega⟩, by simp [intOf]; omega⟩
    · obtain rfl : j = n := by omega
      have hy := rowsTx_yes (sep := sep) (W := W) HK.out (by rw [HSSL.out]; exact HLEN.out)
      rw [HSSL.out] at hy
      have HY := Lib.hid hy
      clear hy
      go_wp2_with fail
      refine (builtString_any _ _ _ _ HBU.out hsz).mono ?_
      rintro e w2 ⟨rfl, hb2⟩
      go_wp2
      go_ret2
      rw [HY.out]
      exact ⟨rfl, HB1.out.trans ((HB.out.trans hb2).mono HB1.out.size)⟩
end Go.Proofs.YtobpecgecopdnaaGreatDoor

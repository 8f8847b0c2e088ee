/-
  The size of a pattern: the program. Conditions: bounds.
-/
import Derived.Test.YtpolpihgclemnaaDoorRxSizeS
namespace Go.Proofs.YtpolpihgclemnaaDoor
open Go.RowKit
set_option linter.unusedVariables false
set_option linter.unusedSimpArgs false

/-- how often each is used so far -/
def cntF (S : List Int) (j : Nat) : Value := .int .i64 (S.count (j : Int) : Nat)
theorem cntF_store {w wr : World} {g n y : Nat} {S : List Int} (h : Fill w wr g n (cntF S)) (hy : y < n) : Fill w (wr.setCell ⟨g, y, none⟩ (.int .i64 ((S.count (y : Int) : Nat) + 1))) g n (cntF (S ++ [(y : Int)])) := by
  refine (h.store hy _).congr ?_
  intro j hj
  unfold cntF
  rw [List.count_append]
  by_cases e : j = y
  · subst e
    rw [if_pos rfl]
    simp
  · rw [if_neg e]
    have : (y : Int) ≠ (j : Int) := by omega
    simp [this]
/-- the slices of kids that were laid in a row -/
def kidF (Q : List NdQ) (j : Nat) : Value := match Q[j]? with | some q => .slice q.ka q.kl q.kc | none => .slice none 0 0
theorem kidF_store {w wr : World} {g n k : Nat} {Q : List NdQ} (h : Fill w wr g n (kidF (Q.take k))) (hk : k < n) (hQ : k < Q.length) : Fill w (wr.setCell ⟨g, k, none⟩ (.slice Q[k].ka Q[k].kl Q[k].kc)) g n (kidF (Q.take (k + 1))) := by
  refine (h.store hk _).congr ?_
  intro j hj
  unfold kidF
  rw [List.getElem?_take, List.getElem?_take]
  by_cases e : j = k
  · subst e
    rw [if_pos rfl, if_pos (by omega), List.getElem?_eq_getElem hQ]
  · rw [if_neg e]
    by_cases e1 : j < k
    · rw [if_pos e1, if_pos (by omega)]
    · rw [if_neg e1, if_neg (by omega)]
theorem infoRow : (Tryd.prog.info? 36).map (fun i => (i.zero, i.size, i.bytes)) = some (some (.slice none 0 0), 1, 24) := by kernel_rfl
theorem makeRows (n : Nat) (hn : n ≤ 1048576) (u : World) : (Instr.makeSlice 59 (.int .i64 (n : Int)) (.int .i64 (n : Int))).run Tryd.prog u =
      .ok (.slice (some ⟨u.heap.size, 0, none⟩) n n) (u.alloc (.cells (madeCells #[.slice none 0 0] n) 36)) := by
  obtain ⟨i0, hi, hz0, hz1, hz2⟩ := info_parts infoRow
  have h := run_make (P := Tryd.prog) u 59 36 i0 (.slice none 0 0) Tryd.underlying59 hi hz0 .i64 .i64 (n : Int) (n : Int) (by omega) (Int.le_refl _) (by rw [hz2]; omega) (by omega)
  simpa [hz1, Value.cells] using h
theorem fillRows (w : World) (n : Nat) : Fill w (w.alloc (.cells (madeCells #[.slice none 0 0] n) 36)) w.heap.size n (fun _ => .slice none 0 0) := by
  have hF := Fill.made w w (Below.refl _ _) (madeCells #[.slice none 0 0] n) 36 (fun _ => .slice none 0 0) (fun j hj => madeCells_get _ _ _ (by simpa [size_madeCells] using hj))
  rw [size_madeCells] at hF
  exact hF
set_option maxHeartbeats 4000000 in
set_option maxRecDepth 20000 in
theorem isTree_any (g n : Nat) (Q : List NdQ) (w : World) (hg : g < w.heap.size) (hc : ∀ i, (h : i < Q.length) → w.cell? ⟨g, i, none⟩ = some (.slice Q[i].ka Q[i].kl Q[i].kc)) (hf : ∀ q ∈ Q, NdFine w q) (hn : Q.length = n) (hl : n ≤ 1048576) (hql : ∀ q ∈ Q, q.sl ≤ 1048576 ∧ q.kl ≤ 1048576) :
    Calls Tryd.prog 28 #[.slice (some ⟨g, 0, none⟩) n n] w fun e w' => e = .returned (.bool (treeB (kidsOf Q))) ∧ Below w.heap.size w w' := by
  have HC := Lib.hid hc
  have HFN := Lib.hid hf
  have HL := Lib.hid hql
  have HN := Lib.hid hn
  have HKN := Lib.hid (show (kidsOf Q).length = n by rw [kidsOf_len]; exact hn)
  clear hc hf hql hn
  have hmk := makeInts n (by omega)
  have HF := Lib.hid (fillInts w n)
  go_enter Tryd.func28, Tryd.ntmps28
  go_wp2
  clear hmk
  go_loopw [15] (fun i wr => ∃ k : Nat, k ≤ n ∧ i = .int .i64 k ∧ Fill w wr w.heap.size n (cntF (seenK (kidsOf Q) k 0)) ∧ InRange (kidsOf Q) k 0 ∧ (seenK (kidsOf Q) k 0).length ≤ k * 1048576) (fun i _ => n - (intOf i).toNat)
  case atStart =>
    refine ⟨0, Nat.zero_le _, rfl, ?_, InRange.start _, by rw [seenK_zero]; simp⟩
    rw [seenK_zero]
    refine HF.out.congr ?_
    intro j hj
    simp [cntF]
  case round =>
    obtain ⟨k, hk, rfl, hfill, hrng, hlen⟩ := hrel
    have HI := Lib.hid hfill
    have HRG := Lib.hid hrng
    have HLN := Lib.hid hlen
    clear hfill hrng hlen
    by_cases hlt : k < n
    · have hkQ : k < Q.length := by rw [HN.out]; exact hlt
      have hck := HC.out k hkQ
      rw [← HI.out.below.cell (p := ⟨g, k, none⟩) hg] at hck
      have HFQ := Lib.hid (HFN.out _ (List.getElem_mem hkQ))
      have HKG := Lib.hid (kidsOf_get hkQ)
      have hll := HL.out _ (List.getElem_mem hkQ)
      generalize Q[k] = q at *
      obtain ⟨op, qa, qb, neg, sa, sl, sc, set, ka, kl, kc, kids⟩ := q
      simp only [] at hll hck
      have HKG2 := Lib.hid (show (kidsOf Q).getD k [] = kids from HKG.out)
      have HKL := Lib.hid (show kids.length = kl from HFQ.out.2.1.2)
      have HRK := Lib.hid (show RowI .i64 w ka kids from HFQ.out.1.2)
      clear HFQ HKG hkQ
      go_wp2
      clear hck
      go_loopw [22] (fun i wi => ∃ m : Nat, m ≤ kl ∧ i = .int .i64 m ∧ Fill w wi w.heap.size n (cntF (seenK (kidsOf Q) k m)) ∧ InRange (kidsOf Q) k m ∧ (seenK (kidsOf Q) k m).length ≤ k * 1048576 + m) (fun i _ => kl - (intOf i).toNat)
      case atStart => exact ⟨0, Nat.zero_le _, rfl, HI.out, HRG.out, Nat.le_trans HLN.out (Nat.le_add_right _ _)⟩
      case round =>
        obtain ⟨m, hm, rfl, hfill, hrng, hlen⟩ := hrel
        have HI2 := Lib.hid hfill
        have HRG2 := Lib.hid hrng
        have HLN2 := Lib.hid hlen
        clear hfill hrng hlen
        by_cases hml : m < kl
        · have hms : m < kids.length := by rw [HKL.out]; exact hml
          have hRI := HRK.out.below HI2.out.below
          rcases hRI with h0 | ⟨b2, off2, rfl, hbl2, hc2⟩
          · rw [h0] at hms; exact absurd hms (Nat.not_lt_zero _)
          have hcs := hc2 m hms
          rw [getD_get _ _ hms] at hcs
          have hmk2 : m < ((kidsOf Q).getD k []).length := by rw [HKG2.out]; exact hms
          have hki : k < (kidsOf Q).length := by rw [HKN.out]; exact hlt
          have he : ((kidsOf Q).getD k [])[m] = kids[m] := by simp only [HKG2.out]
          have HRN := Lib.hid (fun (h : TreeOk (kidsOf Q)) => h.range hki hmk2)
          have HNX := Lib.hid (seenK_next hmk2)
          have HRX := Lib.hid (HRG2.out.next hmk2)
          rw [he] at HRN HNX HRX
          generalize kids[m] = x at *
          clear hc2 hms hmk2 hki he
          cases hbt : betw x 0 ((k : Int) - 1)
          · have HX := Lib.hid (show ¬ TreeOk (kidsOf Q) from fun h => by have := HRN.out h; unfold betw at hbt; simp at hbt; omega)
            go_wp2_with (go_at_call 36; refine (within_any _ _ _ _).mono ?_; rintro e w2 ⟨rfl, hw⟩; obtain rfl := hw.symm; rw [hbt])
            go_ret
            rw [treeB_no HX.out]
            exact ⟨rfl, HI2.out.below⟩
          have hbx : 0 ≤ x ∧ x < k := by have h := hbt; unfold betw at h; simp at h; omega
          obtain ⟨y, rfl⟩ : ∃ y : Nat, x = (y : Int) := ⟨x.toNat, by omega⟩
          have hyn : y < n := by omega
          have huy := HI2.out.cell y hyn
          have hfy := HI2.out.free y hyn
          have HRX2 := Lib.hid (HRX.out hbx)
          have HST := Lib.hid (cntF_store HI2.out hyn)
          unfold cntF at huy
          have hcl := Nat.le_trans (List.count_le_length (l := seenK (kidsOf Q) k m) (a := (y : Int))) HLN2.out
          generalize (seenK (kidsOf Q) k m).count (y : Int) = c at huy HST hcl
          have hcs2 : c ≤ 2199023255552 := by omega
          clear hcl hbx
          go_wp2_with (go_at_call 36; refine (within_any _ _ _ _).mono ?_; rintro e w2 ⟨rfl, hw⟩; obtain rfl := hw.symm; rw [hbt])
          refine ⟨⟨m + 1, by omega, by go_num, ?_, HRX2.out, by rw [HNX.out, List.length_append]; have := HLN2.out; simp; omega⟩, by simp [intOf]; omega⟩
          rw [HNX.out]
          exact HST.out
        · obtain rfl : m = kl := by omega
          have hkQ : k < (kidsOf Q).length := by rw [HKN.out]; exact hlt
          have HSR := Lib.hid (show seenK (kidsOf Q) k m = seenK (kidsOf Q) (k + 1) 0 by rw [← seenK_row hkQ, HKG2.out, HKL.out])
          have HRR := Lib.hid (InRange.row (K := kidsOf Q) (i := k) (by rw [HKG2.out, HKL.out]; exact HRG2.out))
          clear hkQ
          go_wp2
          refine ⟨⟨k + 1, by omega, by go_num, ?_, HRR.out, ?_⟩, by simp [intOf]; omega⟩
          · rw [← HSR.out]; exact HI2.out
          · rw [← HSR.out]; have := HLN2.out; omega
    · obtain rfl : k = n := by omega
      have HAL := Lib.hid (show seenK (kidsOf Q) k 0 = (kidsOf Q).flatten by rw [← seenK_all, HKN.out])
      have HI3 := Lib.hid (HI.out)
      have HLN3 := Lib.hid (HLN.out)
      rw [HAL.out] at HI3 HLN3
      go_wp2
      go_loopw [41] (fun i wi => ∃ m : Nat, m ≤ k ∧ i = .int .i64 m ∧ Fill w wi w.heap.size k (cntF (kidsOf Q).flatten) ∧ ∀ j, j < m → j + 1 < k → (kidsOf Q).flatten.count (j : Int) = 1) (fun i _ => k - (intOf i).toNat)
      case atStart => exact ⟨0, Nat.zero_le _, rfl, HI3.out, fun j hj => absurd hj (Nat.not_lt_zero _)⟩
      case round =>
        obtain ⟨m, hm, rfl, hfill, huse⟩ := hrel
        have HI2 := Lib.hid hfill
        have HUS := Lib.hid huse
        clear hfill huse
        by_cases hml : m < k
        · have hum := HI2.out.cell m hml
          unfold cntF at hum
          have HCK := Lib.hid (fun (h : TreeOk (kidsOf Q)) (hj : m + 1 < k) => h.2.2 m (by rw [HKN.out]; exact hj))
          have HUN := Lib.hid (fun (h : m + 1 < k → (kidsOf Q).flatten.count (m : Int) = 1) j (hj : j < m + 1) (hjk : j + 1 < k) => (by
              by_cases e : j = m
              · subst e; exact h hjk
              · exact HUS.out j (by omega) hjk : (kidsOf Q).flatten.count (j : Int) = 1))
          generalize (kidsOf Q).flatten.count (m : Int) = c at hum HCK HUN
          by_cases hlast : m + 1 < k
          · by_cases h1 : c = 1
            · subst h1
              have HUN2 := Lib.hid (HUN.out (fun _ => rfl))
              go_wp2
              exact ⟨⟨m + 1, by omega, by go_num, HI2.out, HUN2.out⟩, by simp [intOf]; omega⟩
            · have HX := Lib.hid (show ¬ TreeOk (kidsOf Q) from fun h => h1 (HCK.out h hlast))
              go_wp2
              go_ret
              rw [treeB_no HX.out]
              exact ⟨rfl, HI2.out.below⟩
          · have HUN2 := Lib.hid (HUN.out (fun h => absurd h hlast))
            go_wp2
            exact ⟨⟨m + 1, by omega, by go_num, HI2.out, HUN2.out⟩, by simp [intOf]; omega⟩
        · obtain rfl : m = k := by omega
          by_cases h0 : m = 0
          · subst h0
            have HX := Lib.hid (show ¬ TreeOk (kidsOf Q) from fun h => by have := h.1; rw [HKN.out] at this; exact absurd this (Nat.lt_irrefl _))
            go_wp2
            go_ret
            rw [treeB_no HX.out]
            exact ⟨rfl, HI2.out.below⟩
          · have HX := Lib.hid (show TreeOk (kidsOf Q) from ⟨by rw [HKN.out]; omega, HRG.out.all HKN.out, fun j hj => by rw [HKN.out] at hj; exact HUS.out j (by omega) hj⟩)
            go_wp2
            go_ret
            rw [treeB_yes HX.out]
            exact ⟨ret_bool (by simp; omega), HI2.out.below⟩

set_option maxHeartbeats 4000000 in
set_option maxRecDepth 20000 in
theorem isRxTree_any (a : Option Addr) (cap n : Nat) (Q : List NdQ) (w : World) (h : NdR w a Q) (hn : Q.length = n) (hl : n ≤ 1048576) (hql : ∀ q ∈ Q, q.sl ≤ 1048576 ∧ q.kl ≤ 1048576) :
    Calls Tryd.prog 22 #[.agg #[.slice a n cap]] w fun e w' => e = .returned (.bool (treeB (kidsOf Q))) ∧ Below w.heap.size w w' := by
  have HR := Lib.hid h
  have HL := Lib.hid hql
  have HN := Lib.hid hn
  clear h hql hn
  obtain ⟨u, hu, hsz, hbu, hc0⟩ := rx_box w (.slice a n cap) 29
  have HU := Lib.hid hbu
  have HSZ := Lib.hid hsz
  have hlt0 : w.heap.size < u.heap.size := by omega
  have hmk := makeRows n (by omega)
  have HF := Lib.hid (fillRows u n)
  clear hbu hsz
  go_enter Tryd.func22, Tryd.ntmps22
  go_wp2
  clear hmk
  go_loopw [13] (fun i wr => ∃ k : Nat, k ≤ n ∧ i = .int .i64 k ∧ Fill u wr u.heap.size n (kidF (Q.take k))) (fun i _ => n - (intOf i).toNat)
  case atStart => exact ⟨0, Nat.zero_le _, rfl, HF.out.congr (fun j hj => by simp [kidF])⟩
  case round =>
    obtain ⟨k, hk, rfl, hfill⟩ := hrel
    have HI := Lib.hid hfill
    clear hfill
    by_cases hlt : k < n
    · have hkQ : k < Q.length := by rw [HN.out]; exact hlt
      obtain ⟨hr1, hr2⟩ := HR.out
      rcases hr1 with h0 | ⟨b, off, rfl, hbl, hc⟩
      · rw [h0] at hkQ; exact absurd hkQ (Nat.not_lt_zero _)
      have hcq := ((hc k hkQ).below HU.out hbl).below HI.out.below (Nat.lt_of_lt_of_le hbl HU.out.size)
      have HST := Lib.hid (fun (wx : World) (h : Fill u wx u.heap.size n (kidF (Q.take k))) => kidF_store h hlt hkQ)
      generalize Q[k] = q at *
      obtain ⟨op, qa, qb, neg, sa, sl, sc, set, ka, kl, kc, kids⟩ := q
      obtain ⟨d0, d1, d2, d3, d4, d5⟩ := hcq
      simp only [] at d0 d1 d2 d3 d4 d5
      obtain ⟨wn, hwn, s5, b5, ⟨c0, c1, c2, c3, c4, c5⟩, hf5⟩ := laid6 wr (.int .i64 op) (.int .i64 qa) (.int .i64 qb) (.bool neg) (.slice sa sl sc) (.slice ka kl kc) 38
      have HI5 := Lib.hid (HI.out.from b5)
      have HS2 := Lib.hid (HST.out wn HI5.out)
      have hfk := HI5.out.free k hlt
      have hck := HI5.out.cell k hlt
      unfold kidF at hck
      rw [List.getElem?_take, if_neg (Nat.lt_irrefl _)] at hck
      clear hc hr2 HST b5 hf5 s5
      go_wp2
      exact ⟨⟨k + 1, by omega, by go_num, HS2.out⟩, by simp [intOf]; omega⟩
    · obtain rfl : k = n := by omega
      have hlk := HN.out
      have HCL := Lib.hid (isTree_any u.heap.size k Q wr HI.out.hi (fun i hi => by
        rw [HI.out.cell i (by omega)]
        unfold kidF
        rw [List.take_of_length_le (by omega), List.getElem?_eq_getElem hi]) (fun q hq => ((HR.out.2 q hq).below HU.out).below HI.out.below) HN.out hl HL.out)
      clear hlk
      go_wp2_with fail
      refine HCL.out.mono ?_
      rintro e w2 ⟨rfl, hb2⟩
      have HB2 := Lib.hid (HU.out.trans ((HI.out.below.trans (hb2.mono HI.out.below.size)).mono HU.out.size))
      clear hb2
      go_wp2
      go_ret
      exact ⟨rfl, HB2.out⟩
end Go.Proofs.YtpolpihgclemnaaDoor

/-
  The size of a pattern: the specification. Conditions: bounds.
-/
import Derived.Test.YtnleemcddhpanaaRxSpec
import Derived.Deep.CutBlock
namespace Go.Proofs.Ytnleemcddhpanaa
open Go.RowKit
set_option linter.unusedVariables false
set_option linter.unusedSimpArgs false

theorem ndsOf_len (Q : List NdQ) : (ndsOf Q).length = Q.length := by unfold ndsOf; rw [List.length_map]
theorem ndsOf_kids (Q : List NdQ) : (ndsOf Q).map (fun v => v.2.2.2.2.2) = kidsOf Q := by unfold ndsOf kidsOf; rw [List.map_map]; rfl
theorem sizesL_at {L : List NdV} {k : Nat} (h : k < L.length) : sizesL (L.take (k + 1)) = sizesL (L.take k) ++ [nodeSz (sizesL (L.take k)) L[k]] := by
  rw [List.take_succ_eq_append_getElem h, sizesL_next]
theorem ndsOf_at {Q : List NdQ} {k : Nat} (h : k < Q.length) (h' : k < (ndsOf Q).length) : (ndsOf Q)[k] = (Q[k]).val := by simp [ndsOf]
/-- the sizes so far -/
def sizeF (S : List Int) (j : Nat) : Value := .int .i64 (S.getD j 0)
theorem sizeF_next {S : List Int} {k n : Nat} (hS : S.length = k) (x : Int) (hx : ∀ j, n ≤ j → j < n) : True := trivial
theorem sizeF_store {w wr : World} {g n k : Nat} {S : List Int} (h : Fill w wr g n (sizeF S)) (hk : k < n) (hS : S.length = k) (x : Int) : Fill w (wr.setCell ⟨g, k, none⟩ (.int .i64 x)) g n (sizeF (S ++ [x])) := by
  refine (h.store hk (.int .i64 x)).congr ?_
  intro j hj
  unfold sizeF
  by_cases e : j = k
  · subst e
    rw [if_pos rfl, List.getD_eq_getElem?_getD, List.getElem?_append_right (by omega), hS, Nat.sub_self]
    rfl
  · rw [if_neg e, List.getD_eq_getElem?_getD, List.getD_eq_getElem?_getD]
    by_cases e1 : j < k
    · rw [List.getElem?_append_left (by omega)]
    · rw [List.getElem?_eq_none (by omega), List.getElem?_eq_none (by rw [List.length_append]; simp; omega)]
theorem Fill.from {w wr w2 : World} {g n : Nat} {f : Nat → Value} (h : Fill w wr g n f) (hb : Below wr.heap.size wr w2) : Fill w w2 g n f :=
  ⟨h.below.trans (hb.mono h.below.size), h.lo, Nat.lt_of_lt_of_le h.hi hb.size, fun j hj => by rw [hb.cell (p := ⟨g, j, none⟩) h.hi]; exact h.cell j hj, fun j hj => by rw [hb.frozen (p := ⟨g, j, none⟩) h.hi]; exact h.free j hj⟩
theorem fillInts (w : World) (n : Nat) : Fill w (w.alloc (.cells (madeCells #[.int .i64 0] n) 3)) w.heap.size n (fun _ => .int .i64 0) := by
  have hF := Fill.made w w (Below.refl _ _) (madeCells #[.int .i64 0] n) 3 (fun _ => .int .i64 0) (fun j hj => madeCells_get _ _ _ (by simpa [size_madeCells] using hj))
  rw [size_madeCells] at hF
  exact hF

set_option maxHeartbeats 4000000 in
set_option maxRecDepth 20000 in
theorem specRxSize_any (a : Option Addr) (cap n : Nat) (Q : List NdQ) (w : World) (h : NdR w a Q) (hn : Q.length = n) (hl : n ≤ 1048576) (hql : ∀ q ∈ Q, q.sl ≤ 1048576 ∧ q.kl ≤ 1048576) :
    Calls Try.prog 11 #[.agg #[.slice a n cap]] w fun e w' => e = .returned (.int .i64 (rxSz (ndsOf Q))) ∧ Below w.heap.size w w' := by
  have HR := Lib.hid h
  have HL := Lib.hid hql
  have HN := Lib.hid hn
  have HT := Lib.hid (fun W (hb : Below w.heap.size w W) => specTree_any a cap n Q W (h.below hb) hn hl hql)
  clear h hql hn
  obtain ⟨u, hu, hsz, hbu, hc0⟩ := rx_box w (.slice a n cap) 40
  have HU := Lib.hid hbu
  have HSZ := Lib.hid hsz
  have hlt0 : w.heap.size < u.heap.size := by omega
  clear hbu hsz
  go_enter Try.func11, Try.ntmps11
  go_wp2_with fail
  refine (HT.out _ HU.out).mono ?_
  rintro e w1 ⟨rfl, hb1⟩
  rw [← hb1.cell (p := ⟨w.heap.size, 0, none⟩) hlt0] at hc0
  have HU1 := Lib.hid (HU.out.trans (hb1.mono HU.out.size))
  have HSZ1 := Lib.hid (show w.heap.size < w1.heap.size from Nat.lt_of_lt_of_le hlt0 hb1.size)
  clear hb1
  cases hT : treeB (kidsOf Q)
  · have HX := Lib.hid (show rxSz (ndsOf Q) = 0 by unfold rxSz; rw [ndsOf_kids, hT]; rfl)
    go_wp2
    go_ret
    rw [HX.out]
    exact ⟨rfl, HU1.out⟩
  have HTR := Lib.hid (treeB_ok hT)
  have HX := Lib.hid (show rxSz (ndsOf Q) = (sizesL (ndsOf Q)).getD (n - 1) 0 by unfold rxSz; rw [ndsOf_kids, hT, ndsOf_len, HN.out]; rfl)
  have hn0 : 0 < n := by have := HTR.out.1; rw [kidsOf_len, HN.out] at this; exact this
  have hpos : 0 < Q.length := by rw [HN.out]; omega
  obtain ⟨hr1, hr2⟩ := HR.out
  rcases hr1 with h0 | ⟨b, off, rfl, hbl, hc⟩
  · rw [h0] at hpos; exact absurd hpos (Nat.lt_irrefl _)
  have HCC := Lib.hid hc
  have HFN := Lib.hid hr2
  have HKN := Lib.hid (show (kidsOf Q).length = n by rw [kidsOf_len]; exact HN.out)
  have hmk := makeInts n (by omega)
  have HF := Lib.hid (fillInts w1 n)
  clear hc hr2 hpos hT
  go_wp2
  clear hmk
  go_loopw [4] (fun i wr => ∃ k : Nat, k ≤ n ∧ i = .int .i64 k ∧ Fill w1 wr w1.heap.size n (sizeF (sizesL ((ndsOf Q).take k)))) (fun i _ => n - (intOf i).toNat)
  case atStart => exact ⟨0, Nat.zero_le _, rfl, HF.out⟩
  case round =>
    obtain ⟨k, hk, rfl, hfill⟩ := hrel
    have hbx : wr.cell? ⟨w.heap.size, 0, none⟩ = some (.slice (some ⟨b, off, none⟩) n cap) := by rw [hfill.below.cell (p := ⟨w.heap.size, 0, none⟩) (by show w.heap.size < _; exact HSZ1.out)]; exact hc0
    by_cases hlt : k < n
    · have hkQ : k < Q.length := by rw [HN.out]; exact hlt
      have hkL : k < (ndsOf Q).length := by rw [ndsOf_len, HN.out]; exact hlt
      have hblu : b < w1.heap.size := Nat.lt_of_lt_of_le hbl HU1.out.size
      have hcq := ((HCC.out k hkQ).below HU1.out hbl).below hfill.below hblu
      have HFQ := Lib.hid (((HFN.out _ (List.getElem_mem hkQ)).below HU1.out).below hfill.below)
      have HKG := Lib.hid (kidsOf_get hkQ)
      have HAT := Lib.hid (sizesL_at hkL)
      rw [ndsOf_at hkQ hkL] at HAT
      have hll := HL.out _ (List.getElem_mem hkQ)
      have HSL := Lib.hid (show (sizesL ((ndsOf Q).take k)).length = k by rw [sizesL_len, List.length_take, ndsOf_len, HN.out]; omega)
      have HSS := Lib.hid (sizesL_small ((ndsOf Q).take k))
      generalize Q[k] = q at *
      generalize sizesL ((ndsOf Q).take k) = S at *
      have HI := Lib.hid hfill
      obtain ⟨op, qa, qb, neg, sa, sl, sc, set, ka, kl, kc, kids⟩ := q
      obtain ⟨d0, d1, d2, d3, d4, d5⟩ := hcq
      simp only [] at d0 d1 d2 d3 d4 d5 hll
      have HAT2 := Lib.hid (show sizesL ((ndsOf Q).take (k + 1)) = S ++ [nodeSz S (op, qa, qb, neg, set, kids)] from HAT.out)
      have HKG2 := Lib.hid (show (kidsOf Q).getD k [] = kids from HKG.out)
      have HKL := Lib.hid (show kids.length = kl from HFQ.out.2.1.2)
      obtain ⟨wn, hu5, s5, b5, ⟨c0, c1, c2, c3, c4, c5⟩, hf5⟩ := laid6 wr (.int .i64 op) (.int .i64 qa) (.int .i64 qb) (.bool neg) (.slice sa sl sc) (.slice ka kl kc) 55
      have HRK := Lib.hid ((HFQ.out.1.2.below b5 : RowI .i64 wn ka kids))
      have HI5 := Lib.hid (HI.out.from b5)
      have HO64 := Lib.hid (show (Nd64 op ∧ Nd64 qa ∧ Nd64 qb) from ⟨HFQ.out.2.2.2.1, HFQ.out.2.2.2.2.1, HFQ.out.2.2.2.2.2.1⟩)
      have hI5 := HI5.out
      clear HFQ HKG HAT hfill hkL hkQ b5 s5 hf5
      go_upto_if 31 with fail
      go_cut [6] from 17 to 69 (fun s6 wx => s6 = .int .i64 (oftenV (op, qa, qb, neg, set, kids)) ∧ wx = wn)
      case first =>
        have h64 := HO64.out
        unfold Nd64 at h64
        by_cases h9 : op = 9
        · subst h9
          go_wp2
          all_goals go_meet
          all_goals refine ⟨congrArg (Value.int .i64) ?_, rfl⟩
          all_goals (show _ = max 1 (max qa qb))
          all_goals omega
        · go_wp2
          go_meet
          exact ⟨by simp [oftenV, h9], rfl⟩
      case rest =>
        obtain ⟨rfl, hw⟩ := hcut
        obtain rfl := hw.symm
        have HOF := Lib.hid (oftenV_pos (op, qa, qb, neg, set, kids))
        have HSZN := Lib.hid (show nodeSz S (op, qa, qb, neg, set, kids) = min 100000 (1 + oftenV (op, qa, qb, neg, set, kids) * sumK S kids) from rfl)
        generalize nodeSz S (op, qa, qb, neg, set, kids) = N at *
        have HOB := Lib.hid (show oftenV (op, qa, qb, neg, set, kids) ≤ 9223372036854775807 by
          have h64 := HO64.out
          unfold Nd64 at h64
          unfold oftenV
          split
          · show max 1 (max qa qb) ≤ _
            omega
          · omega)
        generalize oftenV (op, qa, qb, neg, set, kids) = O at *
        go_upto_block 2 with fail
        go_cut [7] from 17 to 69 (fun s7 wx => ∃ sv : Int, s7 = .int .i64 sv ∧ wx = wn ∧ 1 ≤ sv ∧ sv ≤ 200000 ∧ min 100000 sv = N)
        case first =>
          go_wp2_with fail
          go_loopw [7, 8] (fun s m wi => ∃ (sv : Int) (j : Nat), j ≤ kl ∧ s = .int .i64 sv ∧ m = .int .i64 j ∧ wi = wn ∧ RefSum O (sumK S (kids.take j)) sv) (fun _ m _ => kl - (intOf m).toNat)
          case atStart => exact ⟨1, 0, Nat.zero_le _, rfl, rfl, rfl, by rw [List.take_zero]; exact RefSum.start⟩
          case round =>
            obtain ⟨sv, j, hj, rfl, rfl, hw, href⟩ := hrel
            obtain rfl := hw.symm
            have HRF := Lib.hid href
            obtain ⟨-, hs1, hs2⟩ := href
            by_cases hjl : j < kl
            · have hjs : j < kids.length := by rw [HKL.out]; exact hjl
              by_cases hfull : sv < 100000
              · have hRI := HRK.out
                rcases hRI with h0 | ⟨b2, off2, rfl, hbl2, hc2⟩
                · rw [h0] at hjs; exact absurd hjs (Nat.not_lt_zero _)
                have hcs := hc2 j hjs
                rw [getD_get _ _ hjs] at hcs
                have hmk2 : j < ((kidsOf Q).getD k []).length := by rw [HKG2.out]; exact hjs
                have hki : k < (kidsOf Q).length := by rw [HKN.out]; exact hlt
                have he : ((kidsOf Q).getD k [])[j] = kids[j] := by simp only [HKG2.out]
                have hrn := HTR.out.range hki hmk2
                rw [he] at hrn
                have HTK := Lib.hid (List.take_succ_eq_append_getElem hjs)
                generalize kids[j] = x at *
                obtain ⟨y, rfl⟩ : ∃ y : Nat, x = (y : Int) := ⟨x.toNat, by omega⟩
                have hyk : y < k := by omega
                have huy := HI5.out.cell y (by omega)
                unfold sizeF at huy
                have hgt : S.getD y 0 ∈ S := by
                  rw [List.getD_eq_getElem?_getD, List.getElem?_eq_getElem (by rw [HSL.out]; exact hyk)]
                  exact List.getElem_mem _
                have hsz := HSS.out _ hgt
                have HSN := Lib.hid (show sumK S (kids.take (j + 1)) = sumK S (kids.take j) + S.getD y 0 by rw [HTK.out, sumK_next]; rfl)
                generalize S.getD y 0 = z at *
                obtain ⟨hz1, hz2⟩ := hsz
                have HNN := Lib.hid (sumK_nonneg HSS.out (kids.take j))
                have hdv : (100000 : Int).tdiv z = 100000 / z := Int.tdiv_eq_ediv_of_nonneg (by omega)
                have hzz : ¬ z = 0 := by omega
                have HD1 := Lib.hid (show 0 ≤ 100000 / z ∧ 100000 / z ≤ 100000 from ⟨Int.ediv_nonneg (by omega) (by omega), Int.ediv_le_self _ (by omega)⟩)
                by_cases hbig : 100000 / z < O
                · have HB := Lib.hid (HRF.out.big HNN.out HOF.out hz1 hbig)
                  generalize 100000 / z = D at *
                  obtain ⟨hd1, hd2⟩ := HD1.out
                  clear hc2 hjs hmk2 hki he hrn hgt
                  go_wp2
                  exact ⟨⟨100000, j + 1, by omega, rfl, by go_num, by first | rfl | trivial, by rw [HSN.out]; exact HB.out⟩, by simp [intOf]; omega⟩
                · obtain ⟨hB, hp1, hp2⟩ := HRF.out.small HNN.out HOF.out hz1 hfull (by omega)
                  have HB := Lib.hid hB
                  have hml : O * z = O * z := rfl
                  generalize hmul : O * z = p at HB hp1 hp2
                  generalize 100000 / z = D at *
                  obtain ⟨hd1, hd2⟩ := HD1.out
                  clear hc2 hjs hmk2 hki he hrn hgt hB hml
                  go_wp2
                  exact ⟨⟨sv + p, j + 1, by omega, rfl, by go_num, by first | rfl | trivial, by rw [HSN.out]; exact HB.out⟩, by simp [intOf]; omega⟩
              · have HE := Lib.hid (show min 100000 sv = N by
                  rw [HSZN.out]
                  have h1 := sumK_le HSS.out (kids.take j) (kids.drop j)
                  rw [List.take_append_drop] at h1
                  exact HRF.out.full HOF.out (by omega) h1)
                clear hjs
                go_wp2
                go_meet
                exact ⟨sv, rfl, rfl, hs1, hs2, HE.out⟩
            · obtain rfl : j = kl := by omega
              have HE := Lib.hid (show min 100000 sv = N by
                rw [HSZN.out]
                have h1 := HRF.out.1
                rw [List.take_of_length_le (by rw [HKL.out]; exact Nat.le_refl _)] at h1
                exact h1)
              by_cases hfull : sv < 100000
              · go_wp2
                go_meet
                exact ⟨sv, rfl, rfl, hs1, hs2, HE.out⟩
              · go_wp2
                go_meet
                exact ⟨sv, rfl, rfl, hs1, hs2, HE.out⟩
        case rest =>
          obtain ⟨sv, rfl, hw, hs1, hs2, hN⟩ := hcut
          obtain rfl := hw.symm
          have HNM := Lib.hid hN
          have hfk := HI5.out.free k hlt
          have hck := HI5.out.cell k hlt
          clear hN
          by_cases hfull : sv < 100000
          · have HNM2 := Lib.hid (show N = sv by have := HNM.out; omega)
            go_wp2
            refine ⟨⟨k + 1, by omega, by go_num, ?_⟩, by simp [intOf]; omega⟩
            rw [HAT2.out, HNM2.out]
            exact sizeF_store HI5.out hlt HSL.out sv
          · have HNM2 := Lib.hid (show N = 100000 by have := HNM.out; omega)
            go_wp2
            all_goals refine ⟨⟨k + 1, by omega, by go_num, ?_⟩, by simp [intOf]; omega⟩
            all_goals rw [HAT2.out, HNM2.out]
            all_goals first | rw [show (if (100000 : Int) < sv then 100000 else sv) = 100000 by split <;> omega] | skip
            all_goals exact sizeF_store HI5.out hlt HSL.out _
    · obtain rfl : k = n := by omega
      have hfk := hfill.cell (k - 1) (by omega)
      unfold sizeF at hfk
      have HX2 := Lib.hid (show rxSz (ndsOf Q) = (sizesL ((ndsOf Q).take k)).getD (k - 1) 0 by rw [HX.out, List.take_of_length_le (by rw [ndsOf_len, HN.out]; exact Nat.le_refl _)])
      have HBF := Lib.hid hfill.below
      have hk1 : ((k : Int) - 1) = ((k - 1 : Nat) : Int) := by omega
      generalize (sizesL ((ndsOf Q).take k)).getD (k - 1) 0 = r at *
      go_wp2
      go_ret
      rw [HX2.out]
      exact ⟨rfl, HU1.out.trans (HBF.out.mono HU1.out.size)⟩
end Go.Proofs.Ytnleemcddhpanaa

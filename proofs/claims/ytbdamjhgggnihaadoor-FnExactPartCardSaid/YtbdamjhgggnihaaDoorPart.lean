/-
  The contracts of Part, the reference's and the program's: a part of a text. Conditions: as in the text on Runes; the numbers are Go's.
-/
import Derived.Test.YtbdamjhgggnihaaDoorTextOf
namespace Go.Proofs.YtbdamjhgggnihaaDoor
open Go.RowKit
open Go.Lib hiding intOf
set_option linter.unusedVariables false
set_option linter.unusedSimpArgs false

theorem partL_bad {l : List UInt8} (h : okT l = false) (fr ct : Int) : partL l fr ct = [] := by
  have e : rl l = [] := by
    unfold okT rl at *
    cases h2 : textRunes l with
    | none => rfl
    | some r => rw [h2] at h; simp at h
  unfold partL
  rw [e]
  rfl
theorem inP_of {fr ct : Int} {j : Nat} (h1 : fr ≤ (j : Int) + 1) (h2 : 0 < ct) (h3 : (j : Int) + 1 - ct < fr) : inP fr ct j = true := by simp [inP, h1, h2, h3]
theorem inP_no {fr ct : Int} {j : Nat} (h : ¬ (fr ≤ (j : Int) + 1) ∨ ¬ (0 < ct) ∨ ¬ ((j : Int) + 1 - ct < fr)) : inP fr ct j = false := by
  unfold inP
  rcases h with h | h | h
  · rw [decide_eq_false h]; simp
  · rw [decide_eq_false h]; simp
  · rw [decide_eq_false h]; simp

theorem txtI_nat {r : List Nat} (h : ∀ c ∈ r, isPt (c : Int) = true) : txtI (r.map Int.ofNat) = enc r ∧ ptsOk (r.map Int.ofNat) = true := by
  have h1 : ptsOk (r.map Int.ofNat) = true := by
    unfold ptsOk
    rw [List.all_eq_true]
    intro x hx
    obtain ⟨c, hc, rfl⟩ := List.mem_map.1 hx
    exact h c hc
  have h2 : (r.map Int.ofNat).map Int.toNat = r := by rw [List.map_map]; simp [Function.comp_def]
  unfold txtI encI
  rw [if_pos h1, h2]
  exact ⟨rfl, h1⟩

set_option maxRecDepth 10000 in
set_option maxHeartbeats 1000000 in
theorem specPart_any (s : ByteArray) (fr ct : Int) (hf : -9223372036854775808 ≤ fr ∧ fr ≤ 9223372036854775807) (hct : -9223372036854775808 ≤ ct ∧ ct ≤ 9223372036854775807) (w : World) (hs : s.size ≤ 1099511627776) :
    Calls Tryd.prog 25 #[.string s, .int .i64 fr, .int .i64 ct] w fun e w' => e = .returned (.string (ofL (partL (bs s) fr ct))) ∧ Below w.heap.size w w' := by
  obtain ⟨i0, hi, hz0, hz1, hz2⟩ := info_parts infoInt
  have hsh := rl_short (bs s)
  obtain ⟨n, hn⟩ : ∃ n, (rl (bs s)).length = n := ⟨_, rfl⟩
  rw [hn] at hsh
  have HN := Lib.hid hn
  clear hn
  obtain ⟨hf1, hf2⟩ := hf
  obtain ⟨hc1, hc2⟩ := hct
  go_enter Tryd.func25, Tryd.ntmps25
  go_wp2_with fail
  refine (specRunes_any s _ hs).mono ?_
  rintro e w1 ⟨v0, rfl, hown0, hb1⟩
  obtain ⟨a0, c0, rfl⟩ := ownsRow_slice hown0
  rw [HN.out] at hown0 ⊢
  have HB1 := Lib.hid hb1
  have HO0 := Lib.hid hown0
  clear hb1 hown0
  cases hk : okT (bs s)
  · have HE := Lib.hid (partL_bad hk fr ct)
    go_wp2
    go_ret
    rw [HE.out]
    exact ⟨rfl, HB1.out⟩
  · obtain ⟨he, hpt, hl⟩ := okT_enc hk
    by_cases hct : ct < 1
    · have HE := Lib.hid (show partL (bs s) fr ct = [] by unfold partL; rw [pickL_none hct]; rfl)
      clear he hpt hl
      go_wp2
      go_ret
      rw [HE.out]
      exact ⟨rfl, HB1.out⟩
    · have e : partL (bs s) fr ct = enc (pickL fr ct (rl (bs s)) n) := by unfold partL; rw [HN.out]
      generalize hr : rl (bs s) = r at *
      have HE := Lib.hid e
      have HPT := Lib.hid hpt
      have HN' := HN
      clear he hpt hl e hr
      go_wp2
      go_loopw [9, 10] (fun v i wr => ∃ (j : Nat), j ≤ n ∧ i = .int .i64 ((j : Int) + 1) ∧ wr.ownsRow w1.heap.size 3 1 v (pickL fr ct r j).length ((pickL fr ct r j).map intV) ∧ Below w1.heap.size w1 wr ∧ w1.heap.size < wr.heap.size) (fun _ i _ => n + 1 - (intOf i).toNat)
      case atStart => exact ⟨0, Nat.zero_le _, rfl, ownsRow_empty _ _ _ (Nat.le_refl _), (Below.refl _ _).alloc (Nat.le_refl _) _, by simp⟩
      case round =>
        obtain ⟨j, hj, rfl, hown, hb, hsz⟩ := hrel
        have HB := Lib.hid hb
        have HOW := Lib.hid hown
        have HR := Lib.hid (ownsRow_below HO0.out hb)
        have hpl := pickL_length fr ct r j
        clear hb hown
        by_cases hlt : j < n
        · have hjr : j < r.length := by rw [HN.out]; exact hlt
          obtain ⟨g, cap', hv, hg, hg2⟩ := ownsRow_some HR.out (by omega)
          simp only [Value.slice.injEq, true_and] at hv
          obtain ⟨rfl, rfl⟩ := hv
          have hc := HR.out.cellAt j (by omega)
          rw [List.getElem?_map, List.getElem?_eq_getElem hjr] at hc
          have hyes := fun h => pickL_yes (fr := fr) (ct := ct) hjr h
          have hno := fun h => pickL_no (fr := fr) (ct := ct) (r := r) (j := j) h
          obtain ⟨c, hcc⟩ : ∃ c, r[j] = c := ⟨_, rfl⟩
          rw [hcc] at hc hyes
          have hc' : wr.cell? ⟨g, j, none⟩ = some (.int .i64 (c : Int)) := hc
          obtain ⟨q, hq⟩ : ∃ q, (pickL fr ct r j).length = q := ⟨_, rfl⟩
          rw [hq] at hpl HOW
          have HQ := Lib.hid hq
          have HYES := Lib.hid hyes
          have HNO := Lib.hid hno
          clear hyes hno hcc hc hq
          by_cases h1 : fr ≤ (j : Int) + 1
          · by_cases h3 : (j : Int) + 1 - ct < fr
            · have HY := Lib.hid (HYES.out (inP_of h1 (by omega) h3))
              go_wp2_with (at_builtin; refine wpList_append_own _ rfl _ _ 22 rfl w1.heap.size 3 i0 (.int .i64 0) 1 8 Tryd.underlying22 hi hz0 hz1 hz2 rfl (by decide) _ _ _ rfl (HOW.out.alloc _) ⟨wr.heap.size, 0, none⟩ 1 1 [.int .i64 (c : Int)] rfl rfl (cell_one_new _ _ _) (fun u hu => by simp at hu; subst hu; rfl) (by unfold maxLen; omega) (by omega) (by simp; omega) ?_; intro v2 w2 hown2 hgr2 hnil2)
              have hbz : Below w1.heap.size w1 w2 := Below.grown (HB.out.alloc HB.out.size _) hgr2 (by simp; omega) (ownBlock_lo HOW.out)
              have hsz2 : w1.heap.size < w2.heap.size := by have := hgr2.size; simp at this; omega
              refine ⟨⟨j + 1, by omega, by go_num, ?_, hbz, hsz2⟩, by simp [intOf]; omega⟩
              rw [HY.out, List.length_append, List.map_append, HQ.out]
              exact hown2
            · have HY := Lib.hid (HNO.out (inP_no (.inr (.inr h3))))
              go_wp2
              refine ⟨⟨j + 1, by omega, by go_num, by rw [HY.out, HQ.out]; exact HOW.out, HB.out, hsz⟩, by simp [intOf]; omega⟩
          · have HY := Lib.hid (HNO.out (inP_no (.inl h1)))
            go_wp2
            refine ⟨⟨j + 1, by omega, by go_num, by rw [HY.out, HQ.out]; exact HOW.out, HB.out, hsz⟩, by simp [intOf]; omega⟩
        · obtain rfl : j = n := by omega
          go_wp2_with fail
          refine (l01Text_any w1.heap.size _ _ (pickL fr ct r j) _ HOW.out (pickL_pts (by rw [HN.out]; exact Nat.le_refl _) HPT.out) (by omega)).mono ?_
          rintro e w2 ⟨rfl, hb2⟩
          go_wp2
          go_ret
          rw [HE.out]
          exact ⟨rfl, (HB1.out.trans (HB.out.mono HB1.out.size)).trans (hb2.mono (Nat.le_trans HB1.out.size HB.out.size))⟩

set_option maxRecDepth 10000 in
set_option maxHeartbeats 1000000 in
theorem implPart_any (s : ByteArray) (fr ct : Int) (hf : -9223372036854775808 ≤ fr ∧ fr ≤ 9223372036854775807) (hct : -9223372036854775808 ≤ ct ∧ ct ≤ 9223372036854775807) (w : World) (hs : s.size ≤ 1099511627776) (hT : Tabs w) :
    Calls Tryd.prog 26 #[.string s, .int .i64 fr, .int .i64 ct] w fun e w' => e = .returned (.string (ofL (partL (bs s) fr ct))) ∧ Below w.heap.size w w' := by
  obtain ⟨i0, hi, hz0, hz1, hz2⟩ := info_parts infoInt
  have hsh := rl_short (bs s)
  obtain ⟨n, hn⟩ : ∃ n, (rl (bs s)).length = n := ⟨_, rfl⟩
  rw [hn] at hsh
  have HN := Lib.hid hn
  have HT := Lib.hid hT
  clear hn hT
  obtain ⟨hf1, hf2⟩ := hf
  obtain ⟨hc1, hc2⟩ := hct
  go_enter Tryd.func26, Tryd.ntmps26
  go_wp2_with fail
  refine (runesOf_any s _ hs HT.out).mono ?_
  rintro e w1 ⟨v0, rfl, hown0, hb1⟩
  obtain ⟨a0, c0, rfl⟩ := ownsRow_slice hown0
  rw [HN.out] at hown0 ⊢
  have HB1 := Lib.hid hb1
  have HO0 := Lib.hid hown0
  clear hb1 hown0
  cases hk : okT (bs s)
  · have HE := Lib.hid (partL_bad hk fr ct)
    go_wp2
    go_ret
    rw [HE.out]
    exact ⟨rfl, HB1.out⟩
  · obtain ⟨he, hpt, hl⟩ := okT_enc hk
    have e : partL (bs s) fr ct = enc (pickL fr ct (rl (bs s)) n) := by unfold partL; rw [HN.out]
    generalize hr : rl (bs s) = r at *
    have HE := Lib.hid e
    have HPT := Lib.hid hpt
    clear he hpt hl e hr
    go_wp2
    go_loopw [9, 22] (fun v i wr => ∃ (j : Nat), j ≤ n ∧ i = .int .i64 (j : Int) ∧ wr.ownsRow w1.heap.size 3 1 v (pickL fr ct r j).length ((pickL fr ct r j).map intV) ∧ Below w1.heap.size w1 wr) (fun _ i _ => n - (intOf i).toNat)
    case atStart => exact ⟨0, Nat.zero_le _, rfl, ownsRow_none _ _ _, Below.refl _ _⟩
    case round =>
      obtain ⟨j, hj, rfl, hown, hb⟩ := hrel
      have HB := Lib.hid hb
      have HOW := Lib.hid hown
      have HR := Lib.hid (ownsRow_below HO0.out hb)
      have hszz := hb.size
      have hpl := pickL_length fr ct r j
      clear hb hown
      by_cases hlt : j < n
      · have hjr : j < r.length := by rw [HN.out]; exact hlt
        obtain ⟨g, cap', hv, hg, hg2⟩ := ownsRow_some HR.out (by omega)
        simp only [Value.slice.injEq, true_and] at hv
        obtain ⟨rfl, rfl⟩ := hv
        have hc := HR.out.cellAt j (by omega)
        rw [List.getElem?_map, List.getElem?_eq_getElem hjr] at hc
        have hyes := fun h => pickL_yes (fr := fr) (ct := ct) hjr h
        have hno := fun h => pickL_no (fr := fr) (ct := ct) (r := r) (j := j) h
        obtain ⟨c, hcc⟩ : ∃ c, r[j] = c := ⟨_, rfl⟩
        rw [hcc] at hc hyes
        have hc' : wr.cell? ⟨g, j, none⟩ = some (.int .i64 (c : Int)) := hc
        obtain ⟨q, hq⟩ : ∃ q, (pickL fr ct r j).length = q := ⟨_, rfl⟩
        rw [hq] at hpl HOW
        have HQ := Lib.hid hq
        have HYES := Lib.hid hyes
        have HNO := Lib.hid hno
        clear hyes hno hcc hc hq
        by_cases h1 : fr ≤ (j : Int) + 1
        · by_cases h2 : 0 < ct
          · by_cases h3 : (j : Int) + 1 - ct < fr
            · have HY := Lib.hid (HYES.out (inP_of h1 h2 h3))
              go_wp2_with (at_builtin; refine wpList_append_own _ rfl _ _ 22 rfl w1.heap.size 3 i0 (.int .i64 0) 1 8 Tryd.underlying22 hi hz0 hz1 hz2 rfl (by decide) _ _ _ rfl (HOW.out.alloc _) ⟨wr.heap.size, 0, none⟩ 1 1 [.int .i64 (c : Int)] rfl rfl (cell_one_new _ _ _) (fun u hu => by simp at hu; subst hu; rfl) (by unfold maxLen; omega) (by omega) (by simp; omega) ?_; intro v2 w2 hown2 hgr2 hnil2)
              have hbz : Below w1.heap.size w1 w2 := Below.grown (HB.out.alloc HB.out.size _) hgr2 (by simp; have := HB.out.size; omega) (ownBlock_lo HOW.out)
              refine ⟨⟨j + 1, by omega, by go_num, ?_, hbz⟩, by simp [intOf]; omega⟩
              rw [HY.out, List.length_append, List.map_append, HQ.out]
              exact hown2
            · have HY := Lib.hid (HNO.out (inP_no (.inr (.inr h3))))
              go_wp2
              refine ⟨⟨j + 1, by omega, by go_num, by rw [HY.out, HQ.out]; exact HOW.out, HB.out⟩, by simp [intOf]; omega⟩
          · have HY := Lib.hid (HNO.out (inP_no (.inr (.inl h2))))
            go_wp2
            refine ⟨⟨j + 1, by omega, by go_num, by rw [HY.out, HQ.out]; exact HOW.out, HB.out⟩, by simp [intOf]; omega⟩
        · have HY := Lib.hid (HNO.out (inP_no (.inl h1)))
          go_wp2
          refine ⟨⟨j + 1, by omega, by go_num, by rw [HY.out, HQ.out]; exact HOW.out, HB.out⟩, by simp [intOf]; omega⟩
      · obtain rfl : j = n := by omega
        obtain ⟨a2, c2, rfl⟩ := ownsRow_slice HOW.out
        have hpts := pickL_pts (fr := fr) (ct := ct) (r := r) (j := j) (by rw [HN.out]; exact Nat.le_refl _) HPT.out
        have htx := txtI_nat hpts
        obtain ⟨q, hq⟩ : ∃ q, (pickL fr ct r j).length = q := ⟨_, rfl⟩
        rw [hq] at hpl HOW ⊢
        have HQ := Lib.hid hq
        have HTX := Lib.hid htx
        clear hpts htx hq
        go_wp2_with fail
        refine (textOf_any a2 c2 q ((pickL fr ct r j).map Int.ofNat) _ (rowI_owns HOW.out) (by rw [List.length_map]; exact HQ.out) (by omega)).mono ?_
        rintro e w2 ⟨rfl, hb2⟩
        rw [HTX.out.1]
        go_wp2
        go_ret
        rw [HE.out]
        exact ⟨rfl, (HB1.out.trans (HB.out.mono HB1.out.size)).trans (hb2.mono (Nat.le_trans HB1.out.size HB.out.size))⟩
end Go.Proofs.YtbdamjhgggnihaaDoor

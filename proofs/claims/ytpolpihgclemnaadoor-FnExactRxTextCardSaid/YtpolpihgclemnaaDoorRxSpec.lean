/-
  Is a pattern a tree, and its size: the specification. Conditions: bounds.
-/
import Derived.Test.YtpolpihgclemnaaDoorRxL
import Derived.Test.YtpolpihgclemnaaDoorRxTree
import Derived.Test.YtpolpihgclemnaaDoorBetw
namespace Go.Proofs.YtpolpihgclemnaaDoor
open Go.RowKit
set_option linter.unusedVariables false
set_option linter.unusedSimpArgs false

def kidsOf (Q : List NdQ) : List (List Int) := Q.map NdQ.kids
theorem kidsOf_len (Q : List NdQ) : (kidsOf Q).length = Q.length := by unfold kidsOf; rw [List.length_map]
theorem kidsOf_get {Q : List NdQ} {k : Nat} (h : k < Q.length) : (kidsOf Q).getD k [] = (Q[k]).kids := by
  unfold kidsOf
  rw [List.getD_eq_getElem?_getD, List.getElem?_map, List.getElem?_eq_getElem h]
  rfl
/-- the kids up to kid k of node i lie ahead of their nodes -/
def InRange (K : List (List Int)) (i k : Nat) : Prop := (∀ j, (h : j < K.length) → j < i → ∀ x ∈ K[j], 0 ≤ x ∧ x < j) ∧ ∀ m, (h : m < (K.getD i []).length) → m < k → 0 ≤ (K.getD i [])[m] ∧ (K.getD i [])[m] < i
theorem InRange.start (K : List (List Int)) : InRange K 0 0 := ⟨fun j _ hj => absurd hj (Nat.not_lt_zero _), fun m _ hm => absurd hm (Nat.not_lt_zero _)⟩
theorem InRange.next {K : List (List Int)} {i k : Nat} (h : InRange K i k) (hk : k < (K.getD i []).length) (hx : 0 ≤ (K.getD i [])[k] ∧ (K.getD i [])[k] < i) : InRange K i (k + 1) :=
  ⟨h.1, fun m hm hmk => by
    by_cases e : m = k
    · subst e; exact hx
    · exact h.2 m hm (by omega)⟩
theorem InRange.row {K : List (List Int)} {i : Nat} (h : InRange K i (K.getD i []).length) : InRange K (i + 1) 0 :=
  ⟨fun j hj hji x hx => by
    by_cases e : j = i
    · subst e
      have e2 : K.getD j [] = K[j] := by simp [hj]
      rw [← e2] at hx
      obtain ⟨m, hm, rfl⟩ := List.getElem_of_mem hx
      exact h.2 m hm hm
    · exact h.1 j hj (by omega) x hx, fun m _ hm => absurd hm (Nat.not_lt_zero _)⟩
theorem InRange.all {K : List (List Int)} {n : Nat} (h : InRange K n 0) (hn : K.length = n) : ∀ i, (hi : i < K.length) → ∀ x ∈ K[i], 0 ≤ x ∧ x < i := fun i hi x hx => h.1 i hi (by omega) x hx
/-- none twice -/
def Once (S : List Int) : Prop := ∀ x : Int, S.count x ≤ 1
theorem Once.next {S : List Int} {x : Int} (h : Once S) (hx : ¬ x ∈ S) : Once (S ++ [x]) := by
  intro y
  rw [List.count_append]
  have h1 := h y
  by_cases e : y = x
  · subst e
    rw [List.count_eq_zero.2 hx]
    simp
  · have : List.count y [x] = 0 := List.count_eq_zero.2 (by simpa using e)
    omega

theorem rx_box (w : World) (v : Value) (t : TypeId) : ∃ u, w.alloc (.cells #[v] t) = u ∧ u.heap.size = w.heap.size + 1 ∧ Below w.heap.size w u ∧ u.cell? ⟨w.heap.size, 0, none⟩ = some v :=
  ⟨_, rfl, by simp, (Below.refl _ _).alloc (Nat.le_refl _) _, by simp⟩
theorem infoBool : (Tryd.prog.info? 4).map (fun i => (i.zero, i.size, i.bytes)) = some (some (.bool false), 1, 1) := by kernel_rfl
theorem makeBools (n : Nat) (hn : n ≤ 1099511627776) (u : World) : (Instr.makeSlice 48 (.int .i64 (n : Int)) (.int .i64 (n : Int))).run Tryd.prog u =
      .ok (.slice (some ⟨u.heap.size, 0, none⟩) n n) (u.alloc (.cells (madeCells #[.bool false] n) 4)) := by
  obtain ⟨i0, hi, hz0, hz1, hz2⟩ := info_parts infoBool
  have h := run_make (P := Tryd.prog) u 48 4 i0 (.bool false) Tryd.underlying48 hi hz0 .i64 .i64 (n : Int) (n : Int) (by omega) (Int.le_refl _) (by rw [hz2]; omega) (by omega)
  simpa [hz1, Value.cells] using h
theorem fillBools (w : World) (n : Nat) : Fill w (w.alloc (.cells (madeCells #[.bool false] n) 4)) w.heap.size n (fun _ => .bool false) := by
  have hF := Fill.made w w (Below.refl _ _) (madeCells #[.bool false] n) 4 (fun _ => .bool false) (fun j hj => madeCells_get _ _ _ (by simpa [size_madeCells] using hj))
  rw [size_madeCells] at hF
  exact hF
/-- which are used so far -/
def usedF (S : List Int) (j : Nat) : Value := .bool (decide ((j : Int) ∈ S))
set_option maxHeartbeats 4000000 in
set_option maxRecDepth 20000 in
theorem specTree_any (a : Option Addr) (cap n : Nat) (Q : List NdQ) (w : World) (h : NdR w a Q) (hn : Q.length = n) (hl : n ≤ 1048576) (hql : ∀ q ∈ Q, q.sl ≤ 1048576 ∧ q.kl ≤ 1048576) :
    Calls Tryd.prog 10 #[.agg #[.slice a n cap]] w fun e w' => e = .returned (.bool (treeB (kidsOf Q))) ∧ Below w.heap.size w w' := by
  have HR := Lib.hid h
  have HL := Lib.hid hql
  have HN := Lib.hid hn
  clear h hql hn
  obtain ⟨u, hu, hsz, hbu, hc0⟩ := rx_box w (.slice a n cap) 29
  by_cases hn1 : n = 0
  · subst hn1
    have HX := Lib.hid (show ¬ TreeOk (kidsOf Q) by have := HN.out; rw [List.length_eq_zero_iff] at this; subst this; exact TreeOk.not_nil)
    go_enter Tryd.func10, Tryd.ntmps10
    go_wp2
    go_ret
    rw [treeB_no HX.out]
    exact ⟨rfl, hbu⟩
  have hpos : 0 < Q.length := by rw [HN.out]; omega
  obtain ⟨hr1, hr2⟩ := HR.out
  rcases hr1 with h0 | ⟨b, off, rfl, hbl, hc⟩
  · rw [h0] at hpos; exact absurd hpos (Nat.lt_irrefl _)
  have HCC := Lib.hid hc
  have HFN := Lib.hid hr2
  have HKN := Lib.hid (show (kidsOf Q).length = n by rw [kidsOf_len]; exact HN.out)
  have HU := Lib.hid hbu
  have HSZ := Lib.hid hsz
  have hmk := makeBools n (by omega)
  have HF := Lib.hid (fillBools u n)
  have hneq : ((n : Int) == 0) = false := by simpa using hn1
  clear hc hr2 hbu hsz hpos
  go_enter Tryd.func10, Tryd.ntmps10
  go_wp2
  clear hmk
  go_loopw [4] (fun i wr => ∃ k : Nat, k ≤ n ∧ i = .int .i64 k ∧ Fill u wr u.heap.size n (usedF (seenK (kidsOf Q) k 0)) ∧ InRange (kidsOf Q) k 0 ∧ Once (seenK (kidsOf Q) k 0)) (fun i _ => n - (intOf i).toNat)
  case atStart => exact ⟨0, Nat.zero_le _, rfl, by rw [seenK_zero]; exact HF.out, InRange.start _, by rw [seenK_zero]; intro x; simp⟩
  case round =>
    obtain ⟨k, hk, rfl, hfill, hrng, honce⟩ := hrel
    have HI := Lib.hid hfill
    have HRG := Lib.hid hrng
    have HON := Lib.hid honce
    have hbx : wr.cell? ⟨w.heap.size, 0, none⟩ = some (.slice (some ⟨b, off, none⟩) n cap) := by rw [hfill.below.cell (p := ⟨w.heap.size, 0, none⟩) (by show w.heap.size < _; have := HSZ.out; omega)]; exact hc0
    clear hfill hrng honce
    by_cases hlt : k < n
    · have hkQ : k < Q.length := by rw [HN.out]; exact hlt
      have HCQ := Lib.hid ((HCC.out k hkQ).below HU.out hbl)
      have HFQ := Lib.hid ((HFN.out _ (List.getElem_mem hkQ)).below HU.out)
      have HKG := Lib.hid (kidsOf_get hkQ)
      have hll := HL.out _ (List.getElem_mem hkQ)
      generalize Q[k] = q at *
      obtain ⟨op, qa, qb, neg, sa, sl, sc, set, ka, kl, kc, kids⟩ := q
      simp only [] at hll
      have HKG2 := Lib.hid (show (kidsOf Q).getD k [] = kids from HKG.out)
      have HKL := Lib.hid (show kids.length = kl from HFQ.out.2.1.2)
      have HRK := Lib.hid (show RowI .i64 u ka kids from HFQ.out.1.2)
      have HC5 := Lib.hid (show u.cell? ⟨b, off + k * 6 + 5, none⟩ = some (.slice ka kl kc) from HCQ.out.2.2.2.2.2)
      have hblu : b < u.heap.size := Nat.lt_of_lt_of_le hbl HU.out.size
      clear HCQ HFQ HKG hkQ
      go_wp2
      go_loopw [5] (fun i wi => ∃ m : Nat, m ≤ kl ∧ i = .int .i64 m ∧ Fill u wi u.heap.size n (usedF (seenK (kidsOf Q) k m)) ∧ InRange (kidsOf Q) k m ∧ Once (seenK (kidsOf Q) k m)) (fun i _ => kl - (intOf i).toNat)
      case atStart => exact ⟨0, Nat.zero_le _, rfl, HI.out, HRG.out, HON.out⟩
      case round =>
        obtain ⟨m, hm, rfl, hfill, hrng, honce⟩ := hrel
        have HI2 := Lib.hid hfill
        have HRG2 := Lib.hid hrng
        have HON2 := Lib.hid honce
        have hby : wr.cell? ⟨w.heap.size, 0, none⟩ = some (.slice (some ⟨b, off, none⟩) n cap) := by rw [hfill.below.cell (p := ⟨w.heap.size, 0, none⟩) (by show w.heap.size < _; have := HSZ.out; omega)]; exact hc0
        have hc5 : wr.cell? ⟨b, off + k * 6 + 5, none⟩ = some (.slice ka kl kc) := by rw [hfill.below.cell (p := ⟨b, off + k * 6 + 5, none⟩) hblu]; exact HC5.out
        clear hfill hrng honce hbx
        by_cases hml : m < kl
        · have hms : m < kids.length := by rw [HKL.out]; exact hml
          have hRI := HRK.out.below HI2.out.below
          rcases hRI with h0 | ⟨b2, off2, rfl, hbl2, hc2⟩
          · rw [h0] at hms; exact absurd hms (Nat.not_lt_zero _)
          have hcs := hc2 m hms
          rw [getD_get _ _ hms] at hcs
          have hmk2 : m < ((kidsOf Q).getD k []).length := by rw [HKG2.out]; exact hms
          have hki : k < (kidsOf Q).length := by rw [HKN.out]; exact hlt
          have he : ((kidsOf Q).getD k [])[m] = kids[m] := by simp only [HKG2.out]
          have HRN := Lib.hid (fun (h : TreeOk (kidsOf Q)) => h.range hki hmk2)
          have HOC := Lib.hid (fun (h : TreeOk (kidsOf Q)) => h.once hki hmk2)
          have HNX := Lib.hid (seenK_next hmk2)
          have HRX := Lib.hid (HRG2.out.next hmk2)
          rw [he] at HRN HOC HNX HRX
          generalize kids[m] = x at *
          clear hc2 hms hmk2 hki he
          by_cases hx0 : x < 0
          · have HX := Lib.hid (show ¬ TreeOk (kidsOf Q) from fun h => by have := (HRN.out h).1; omega)
            go_wp2
            go_ret
            rw [treeB_no HX.out]
            exact ⟨rfl, HU.out.trans (HI2.out.below.mono HU.out.size)⟩
          by_cases hxk : x ≥ k
          · have HX := Lib.hid (show ¬ TreeOk (kidsOf Q) from fun h => by have := (HRN.out h).2; omega)
            go_wp2
            go_ret
            rw [treeB_no HX.out]
            exact ⟨rfl, HU.out.trans (HI2.out.below.mono HU.out.size)⟩
          obtain ⟨y, rfl⟩ : ∃ y : Nat, x = (y : Int) := ⟨x.toNat, by omega⟩
          have hyn : y < n := by omega
          have huy := HI2.out.cell y hyn
          have hfy := HI2.out.free y hyn
          unfold usedF at huy
          by_cases hin : (y : Int) ∈ seenK (kidsOf Q) k m
          · have HX := Lib.hid (show ¬ TreeOk (kidsOf Q) from fun h => HOC.out h hin)
            rw [decide_eq_true hin] at huy
            clear hin
            go_wp2
            go_ret
            rw [treeB_no HX.out]
            exact ⟨rfl, HU.out.trans (HI2.out.below.mono HU.out.size)⟩
          · rw [decide_eq_false hin] at huy
            have HNW := Lib.hid (HON2.out.next hin)
            have HRX2 := Lib.hid (HRX.out ⟨by omega, by omega⟩)
            clear hin
            go_wp2
            go_light
            refine ⟨⟨m + 1, by omega, by go_num, ?_, HRX2.out, by rw [HNX.out]; exact HNW.out⟩, by simp [intOf]; omega⟩
            refine (HI2.out.store hyn (.bool true)).congr ?_
            intro j hj
            rw [HNX.out]
            unfold usedF
            by_cases e : j = y
            · subst e; simp
            · rw [if_neg e]
              congr 1
              have : (j : Int) ≠ (y : Int) := by omega
              simp [this]
        · obtain rfl : m = kl := by omega
          have hkQ : k < (kidsOf Q).length := by rw [HKN.out]; exact hlt
          have HSR := Lib.hid (show seenK (kidsOf Q) k m = seenK (kidsOf Q) (k + 1) 0 by rw [← seenK_row hkQ, HKG2.out, HKL.out])
          have HRR := Lib.hid (InRange.row (K := kidsOf Q) (i := k) (by rw [HKG2.out, HKL.out]; exact HRG2.out))
          clear hkQ
          go_wp2
          refine ⟨⟨k + 1, by omega, by go_num, ?_, HRR.out, ?_⟩, by simp [intOf]; omega⟩
          · rw [← HSR.out]; exact HI2.out
          · rw [← HSR.out]; exact HON2.out
    · obtain rfl : k = n := by omega
      have HAL := Lib.hid (show seenK (kidsOf Q) k 0 = (kidsOf Q).flatten by rw [← seenK_all, HKN.out])
      have HI3 := Lib.hid (HI.out)
      rw [HAL.out] at HI3
      go_wp2
      go_loopw [7] (fun i wi => ∃ m : Nat, m + 1 ≤ k ∧ i = .int .i64 m ∧ Fill u wi u.heap.size k (usedF (kidsOf Q).flatten) ∧ ∀ j, j < m → (j : Int) ∈ (kidsOf Q).flatten) (fun i _ => k - (intOf i).toNat)
      case atStart => exact ⟨0, by omega, rfl, HI3.out, fun j hj => absurd hj (Nat.not_lt_zero _)⟩
      case round =>
        obtain ⟨m, hm, rfl, hfill, huse⟩ := hrel
        have HI2 := Lib.hid hfill
        have HUS := Lib.hid huse
        have hby : wr.cell? ⟨w.heap.size, 0, none⟩ = some (.slice (some ⟨b, off, none⟩) k cap) := by rw [hfill.below.cell (p := ⟨w.heap.size, 0, none⟩) (by show w.heap.size < _; have := HSZ.out; omega)]; exact hc0
        clear hfill huse hbx
        by_cases hml : m + 1 < k
        · have hum := HI2.out.cell m (by omega)
          unfold usedF at hum
          have hlt1 : (m : Int) + 1 < k := by omega
          by_cases hin : (m : Int) ∈ (kidsOf Q).flatten
          · rw [decide_eq_true hin] at hum
            have HUN := Lib.hid (fun j (hj : j < m + 1) => (by
              by_cases e : j = m
              · subst e; exact hin
              · exact HUS.out j (by omega) : (j : Int) ∈ (kidsOf Q).flatten))
            clear hin
            go_wp2
            exact ⟨⟨m + 1, by omega, by go_num, HI2.out, HUN.out⟩, by simp [intOf]; omega⟩
          · rw [decide_eq_false hin] at hum
            have HX := Lib.hid (show ¬ TreeOk (kidsOf Q) from fun h => hin (h.used (by rw [HKN.out]; exact hml)))
            clear hin
            go_wp2
            go_ret
            rw [treeB_no HX.out]
            exact ⟨rfl, HU.out.trans (HI2.out.below.mono HU.out.size)⟩
        · have hlt1 : ¬ (m : Int) + 1 < k := by omega
          have HX := Lib.hid (show TreeOk (kidsOf Q) from TreeOk.of_used (by rw [HKN.out]; omega) (HRG.out.all HKN.out) (by rw [← HAL.out]; exact HON.out) (fun j hj => HUS.out j (by rw [HKN.out] at hj; omega)))
          go_wp2
          go_ret
          rw [treeB_yes HX.out]
          exact ⟨rfl, HU.out.trans (HI2.out.below.mono HU.out.size)⟩
end Go.Proofs.YtpolpihgclemnaaDoor

/-
  The program's rxText and RxText. Conditions: bounds; the table of powers.
-/
import Derived.Test.YtpolpihgclemnaaDoorRxNodeK
import Derived.Test.YtpolpihgclemnaaDoorRxImpl
namespace Go.Proofs.YtpolpihgclemnaaDoor
open Go.RowKit
open Go.Lib hiding intOf
set_option linter.unusedVariables false
set_option linter.unusedSimpArgs false

/-- the texts so far -/
def txtF (T : List (List UInt8)) (j : Nat) : Value := .string (ofL (T.getD j []))
theorem txtF_store {w wr : World} {g n k : Nat} {T : List (List UInt8)} (h : Fill w wr g n (txtF T)) (hk : k < n) (hl : T.length = k) (t : List UInt8) : Fill w (wr.setCell ⟨g, k, none⟩ (.string (ofL t))) g n (txtF (T ++ [t])) := by
  refine (h.store hk _).congr ?_
  intro j hj
  unfold txtF
  by_cases e : j = k
  · subst e
    rw [if_pos rfl, List.getD_eq_getElem?_getD, List.getElem?_append_right (by omega), hl]
    simp
  · rw [if_neg e, List.getD_eq_getElem?_getD, List.getD_eq_getElem?_getD]
    by_cases e1 : j < T.length
    · rw [List.getElem?_append_left e1]
    · rw [List.getElem?_append_right (by omega), List.getElem?_eq_none (by omega), List.getElem?_eq_none (by simp only [List.length_cons, List.length_nil]; omega)]
/-- the row as a list of strings -/
def strsT (T : List (List UInt8)) (n : Nat) : List ByteArray := (List.range n).map (fun j => ofL (T.getD j []))
theorem strsT_len (T : List (List UInt8)) (n : Nat) : (strsT T n).length = n := by simp [strsT]
theorem strsT_get (T : List (List UInt8)) {n j : Nat} (h : j < n) : (strsT T n).getD j .empty = ofL (T.getD j []) := by
  simp [strsT, h]
theorem strsT_row {w wr : World} {g n : Nat} {T : List (List UInt8)} (h : Fill w wr g n (txtF T)) : RowS wr (some ⟨g, 0, none⟩) (strsT T n) :=
  .inr ⟨g, 0, rfl, h.hi, fun i hi => by
    rw [strsT_len] at hi
    rw [Nat.zero_add, h.cell i hi, strsT_get T hi]; rfl⟩
theorem getD_small {T : List (List UInt8)} (h : ∀ t ∈ T, t.length ≤ 1000) (k : Nat) : (T.getD k []).length ≤ 1000 := by
  rw [List.getD_eq_getElem?_getD]
  by_cases e : k < T.length
  · rw [List.getElem?_eq_getElem e]; exact h _ (List.getElem_mem e)
  · rw [List.getElem?_eq_none (by omega)]; simp
theorem nodeS_of {T : List (List UInt8)} {K : List Int} {v : NdV} {l : List UInt8} (h : nodeT T K v = some l) : nodeS T K v = if 1000 < l.length then none else some l := by unfold nodeS; rw [h]
theorem nodeS_none {T : List (List UInt8)} {K : List Int} {v : NdV} (h : nodeT T K v = none) : nodeS T K v = none := by unfold nodeS; rw [h]

theorem nodeText_any {w : World} {Q : List NdQ} {S : List ByteArray} {T : List (List UInt8)} {aq a2 : Option Addr} {n : Nat} {q : NdQ} (cq ct : Nat) (h : NodeIn w Q S T aq a2 n q) :
    Calls Tryd.prog 23 #[.agg #[.slice aq n cq], .slice a2 n ct, q.agg] w fun e w' => NodePost w (nodeT T ((ndsOf Q).map fun v => v.1) q.val) e w' := by
  by_cases h1 : q.op = 1
  · exact node_1 cq ct h h1
  by_cases h2 : q.op = 2
  · exact node_2 cq ct h h2
  by_cases h3 : q.op = 3
  · exact node_3 cq ct h h3
  by_cases h4 : q.op = 4
  · exact node_4 cq ct h h4
  by_cases h5 : q.op = 5
  · exact node_5 cq ct h h5
  by_cases h6 : q.op = 6
  · exact node_6 cq ct h h6
  by_cases h7 : q.op = 7
  · exact node_7 cq ct h h7
  by_cases h8 : q.op = 8
  · exact node_8 cq ct h h8
  by_cases h9 : q.op = 9
  · exact node_9 cq ct h h9
  exact node_0 cq ct h ⟨h1, h2, h3, h4, h5, h6, h7, h8, h9⟩
set_option maxHeartbeats 4000000 in
set_option maxRecDepth 20000 in
theorem rxText_any (a : Option Addr) (cap n : Nat) (Q : List NdQ) (w : World) (h : NdR w a Q) (hn : Q.length = n) (hl : n ≤ 1048576) (hql : ∀ q ∈ Q, q.sl ≤ 1048576 ∧ q.kl ≤ 1048576) (hP : PowTab w) :
    Calls Tryd.prog 15 #[.agg #[.slice a n cap]] w fun e w' => ∃ b, e = .returned (.tuple #[.string (ofL (rxT (ndsOf Q))), .bool b]) ∧ Below w.heap.size w w' := by
  have HR := Lib.hid h
  have HL := Lib.hid hql
  have HN := Lib.hid hn
  have HP := Lib.hid hP
  clear h hql hn hP
  obtain ⟨u, hu, hsz, hbu, hc0⟩ := rx_box w (.slice a n cap) 29
  have HU := Lib.hid hbu
  have hlt0 : w.heap.size < u.heap.size := by omega
  have HTR0 := Lib.hid (isRxTree_any a cap n Q u (HR.out.below hbu) HN.out hl HL.out)
  clear hbu hsz
  go_enter Tryd.func15, Tryd.ntmps15
  go_wp2_with fail
  refine HTR0.out.mono ?_
  rintro e w1 ⟨rfl, hb1⟩
  have hc1 : w1.cell? ⟨w.heap.size, 0, none⟩ = some (.slice a n cap) := by rw [hb1.cell (p := ⟨w.heap.size, 0, none⟩) (by show w.heap.size < _; exact hlt0)]; exact hc0
  have HU1 := Lib.hid (HU.out.trans (hb1.mono HU.out.size))
  have HSZ1 := Lib.hid (show w.heap.size < w1.heap.size from Nat.lt_of_lt_of_le hlt0 hb1.size)
  clear hb1
  cases hT : treeB (kidsOf Q)
  · have HX := Lib.hid (show rxT (ndsOf Q) = [] from rxT_no (by rw [← hT, ← ndsOf_kids]))
    go_wp2
    go_ret2
    rw [HX.out]
    exact ⟨false, rfl, HU1.out⟩
  have HTR := Lib.hid (treeB_ok hT)
  have HTY := Lib.hid hT
  have hn0 : 0 < n := by have := HTR.out.1; rw [kidsOf_len, HN.out] at this; exact this
  have hpos : 0 < Q.length := by rw [HN.out]; omega
  obtain ⟨hr1, hr2⟩ := HR.out
  rcases hr1 with h0 | ⟨b, off, rfl, hbl, hc⟩
  · rw [h0] at hpos; exact absurd hpos (Nat.lt_irrefl _)
  have HCC := Lib.hid hc
  have HFN := Lib.hid hr2
  have HKN := Lib.hid (show (kidsOf Q).length = n by rw [kidsOf_len]; exact HN.out)
  have hmk := makeStrsX n (by omega)
  have HF := Lib.hid (fillStrsX w1 n)
  obtain ⟨w2, hw2⟩ : ∃ w2, w1.alloc (.cells (madeCells #[.string .empty] n) 9) = w2 := ⟨_, rfl⟩
  rw [hw2] at HF
  have hc2 : w2.cell? ⟨w.heap.size, 0, none⟩ = some (.slice (some ⟨b, off, none⟩) n cap) := by rw [HF.out.below.cell (p := ⟨w.heap.size, 0, none⟩) (by show w.heap.size < _; exact HSZ1.out)]; exact hc1
  clear hc hr2 hpos hT
  go_wp2
  clear hmk
  go_loopw [19] (fun i wr => ∃ (k : Nat) (T : List (List UInt8)), k ≤ n ∧ i = .int .i64 k ∧ txtsL (ndsOf Q) k = some T ∧ Fill w1 wr w1.heap.size n (txtF T)) (fun i _ => n - (intOf i).toNat)
  case atStart => exact ⟨0, [], Nat.zero_le _, rfl, rfl, HF.out.congr (fun j hj => by simp [txtF, ofL]; rfl)⟩
  case round =>
    obtain ⟨k, T, hk, rfl, htx, hfill⟩ := hrel
    have HTX := Lib.hid htx
    have HI := Lib.hid hfill
    have hbx : wr.cell? ⟨w.heap.size, 0, none⟩ = some (.slice (some ⟨b, off, none⟩) n cap) := by rw [hfill.below.cell (p := ⟨w.heap.size, 0, none⟩) (by show w.heap.size < _; exact HSZ1.out)]; exact hc1
    by_cases hlt : k < n
    · have hkQ : k < Q.length := by rw [HN.out]; exact hlt
      have hblu : b < w1.heap.size := Nat.lt_of_lt_of_le hbl HU1.out.size
      have hcq := ((HCC.out k hkQ).below HU1.out hbl).below hfill.below hblu
      have HQ1 := Lib.hid ((HR.out.below HU1.out).below hfill.below)
      have HFQ := Lib.hid (((HFN.out _ (List.getElem_mem hkQ)).below HU1.out).below hfill.below)
      have HKG := Lib.hid (kidsOf_get hkQ)
      have hll := HL.out _ (List.getElem_mem hkQ)
      have HVK := Lib.hid (show (ndsOf Q).getD k (0, 0, 0, false, [], []) = Q[k].val by simp [ndsOf, hkQ])
      have HKR := Lib.hid (show ∀ x ∈ Q[k].kids, 0 ≤ x ∧ x < (n : Int) from fun x hx => by
        have h1 : k < (kidsOf Q).length := by rw [HKN.out]; exact hlt
        have h2 := HTR.out.2.1 k h1 x (by
          have e : (kidsOf Q)[k] = Q[k].kids := by
            have := HKG.out
            rw [List.getD_eq_getElem?_getD, List.getElem?_eq_getElem h1] at this
            exact this
          rw [e]; exact hx)
        omega)
      generalize Q[k] = q at *
      obtain ⟨op, qa, qb, neg, sa, sl, sc, set, ka, kl, kc, kids⟩ := q
      obtain ⟨d0, d1, d2, d3, d4, d5⟩ := hcq
      simp only [] at d0 d1 d2 d3 d4 d5 hll
      obtain ⟨wn, hwn, s5, b5, ⟨c0, c1, c2, c3, c4, c5⟩, hf5⟩ := laid6 wr (.int .i64 op) (.int .i64 qa) (.int .i64 qb) (.bool neg) (.slice sa sl sc) (.slice ka kl kc) 38
      have HI5 := Lib.hid (HI.out.from b5)
      have hb1n : Below w1.heap.size w1 wn := HI5.out.below
      have hbn : wn.cell? ⟨w.heap.size, 0, none⟩ = some (.slice (some ⟨b, off, none⟩) n cap) := by rw [hb1n.cell (p := ⟨w.heap.size, 0, none⟩) (by show w.heap.size < _; exact HSZ1.out)]; exact hc1
      obtain ⟨hTl, hTs⟩ := txtsL_len htx
      have HTL := Lib.hid hTl
      have HNT := Lib.hid (nodeText_any cap n (show NodeIn wn Q (strsT T n) T (some ⟨b, off, none⟩) (some ⟨w1.heap.size, 0, none⟩) n ⟨op, qa, qb, neg, sa, sl, sc, set, ka, kl, kc, kids⟩ from {
        hq := HQ1.out.below b5
        hn := HN.out
        hn1 := hl
        hS := strsT_row HI5.out
        hm := strsT_len T n
        hT := fun j hj => strsT_get T hj
        hTL := getD_small hTs
        hf := HFQ.out.below b5
        hl := hll
        hK := HKR.out
        hP := ((HP.out.below HU1.out).below hb1n) }))
      obtain ⟨o, ho⟩ : ∃ o, nodeT T ((ndsOf Q).map fun v => v.1) (NdQ.mk op qa qb neg sa sl sc set ka kl kc kids).val = o := ⟨_, rfl⟩
      rw [ho] at HNT
      have HO := Lib.hid (show nodeT T ((ndsOf Q).map fun v => v.1) ((ndsOf Q).getD k (0, 0, 0, false, [], [])) = o by rw [HVK.out]; exact ho)
      simp only [NdQ.agg] at HNT
      clear HFQ HKG HVK HKR hkQ b5 s5 hf5 ho hTl hTs htx hfill hb1n
      go_wp2_with fail
      refine HNT.out.mono ?_
      rintro e w3 ⟨t, rfl, ht, hb3⟩
      have HI6 := Lib.hid (HI5.out.from hb3)
      have HTT := Lib.hid ht
      have HB3 := Lib.hid (HU1.out.trans (HI6.out.below.mono HU1.out.size))
      clear ht hb3
      have hfk := HI6.out.free k hlt
      have hck := HI6.out.cell k hlt
      unfold txtF at hck
      cases o with
      | none =>
        have HX := Lib.hid (show rxT (ndsOf Q) = [] from rxT_stop (j := k + 1) (by rw [ndsOf_len, HN.out]; omega) (txtsL_stop HTX.out (nodeS_none HO.out)))
        unfold opB
        go_wp2
        go_ret2
        rw [HX.out]
        exact ⟨false, rfl, HB3.out⟩
      | some l =>
        have htl := HTT.out l rfl
        subst htl
        have hsz : (ofL l).size = l.length := size_ofL l
        unfold opB
        by_cases hbig : 1000 < l.length
        · have HX := Lib.hid (show rxT (ndsOf Q) = [] from rxT_stop (j := k + 1) (by rw [ndsOf_len, HN.out]; omega) (txtsL_stop HTX.out (by rw [nodeS_of HO.out, if_pos hbig])))
          have hbI : (1000 : Int) < ((ofL l).size : Int) := by omega
          clear hsz hbig
          go_wp2
          go_ret2
          rw [HX.out]
          exact ⟨false, rfl, HB3.out⟩
        · have HNX := Lib.hid (txtsL_next HTX.out (show nodeS T _ _ = some l by rw [nodeS_of HO.out, if_neg hbig]))
          have HS2 := Lib.hid (txtF_store HI6.out hlt HTL.out l)
          have hbI : ¬ (1000 : Int) < ((ofL l).size : Int) := by omega
          clear hsz hbig
          go_wp2
          exact ⟨⟨k + 1, _, by omega, by go_num, HNX.out, HS2.out⟩, by simp [intOf]; omega⟩
    · obtain rfl : k = n := by omega
      have hfk := HI.out.cell (k - 1) (by omega)
      unfold txtF at hfk
      obtain ⟨hTl, hTs⟩ := txtsL_len htx
      have HX := Lib.hid (show rxT (ndsOf Q) = T.getD (k - 1) [] by
        rw [rxT_yes (by rw [ndsOf_kids]; exact HTY.out) (show txtsL (ndsOf Q) (ndsOf Q).length = some T by rw [ndsOf_len, HN.out]; exact HTX.out)]
        rw [List.getLastD_eq_getLast?, List.getLast?_eq_getElem?, hTl, List.getD_eq_getElem?_getD])
      have hk1 : ((k : Int) - 1) = ((k - 1 : Nat) : Int) := by omega
      generalize T.getD (k - 1) [] = r at *
      clear hTl hTs htx hfill
      go_wp2
      go_ret2
      rw [HX.out]
      exact ⟨true, rfl, HU1.out.trans (HI.out.below.mono HU1.out.size)⟩
theorem implRxText_any (a : Option Addr) (cap n : Nat) (Q : List NdQ) (w : World) (h : NdR w a Q) (hn : Q.length = n) (hl : n ≤ 1048576) (hql : ∀ q ∈ Q, q.sl ≤ 1048576 ∧ q.kl ≤ 1048576) (hP : PowTab w) :
    Calls Tryd.prog 7 #[.agg #[.slice a n cap]] w fun e w' => e = .returned (.string (ofL (rxT (ndsOf Q)))) ∧ Below w.heap.size w w' := by
  have HA := Lib.hid (fun W (hb : Below w.heap.size w W) => rxText_any a cap n Q W (h.below hb) hn hl hql (hP.below hb))
  clear h hn hql hP
  go_enter Tryd.func7, Tryd.ntmps7
  go_wp2_with fail
  refine (HA.out _ ((Below.refl _ _).alloc (Nat.le_refl _) _)).mono ?_
  rintro e w1 ⟨bo, rfl, hb⟩
  have HB := Lib.hid (((Below.refl w.heap.size w).alloc (Nat.le_refl _) _).trans (hb.mono (by simp)))
  clear hb
  go_wp2
  go_ret
  exact ⟨rfl, HB.out⟩
end Go.Proofs.YtpolpihgclemnaaDoor

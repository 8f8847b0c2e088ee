/-
  The reference's RxText. Conditions: bounds.
-/
import Derived.Test.YtpolpihgclemnaaDoorRxTextI
import Derived.Test.YtpolpihgclemnaaDoorRxCharS
import Derived.Test.YtpolpihgclemnaaDoorRxSpec
namespace Go.Proofs.YtpolpihgclemnaaDoor
open Go.RowKit
open Go.Lib hiding intOf
set_option linter.unusedVariables false
set_option linter.unusedSimpArgs false

theorem prsB_pref {l : List Int} {k : Nat} (he : k % 2 = 0) : (prsB (l.take k)).length ≤ (prsB l).length := by
  by_cases hk : k ≤ l.length
  · have h := prsB_append (l.take k) (l.drop k) (by rw [List.length_take]; omega)
    rw [List.take_append_drop] at h
    rw [h, List.length_append]; omega
  · rw [List.take_of_length_le (by omega)]; exact Nat.le_refl _
theorem prsB_more : ∀ l : List Int, l.length ≤ 2 * (prsB l).length + 1
  | [] => by simp
  | [x] => by simp
  | x :: y :: r => by
    have h := prsB_more r
    have h1 := chB_len x (bs sgnB)
    rw [prsB]
    simp only [List.length_append, List.length_cons]
    omega
theorem kidsB_cons (T : List (List UInt8)) (K : List Int) (kind k y : Int) (r : List Int) : kidsB T K kind (k :: y :: r) = kidB T K kind k ++ (if kind = 8 then [124] else []) ++ kidsB T K kind (y :: r) := by
  rw [kidsB]
  simp
theorem kidsB_next (T : List (List UInt8)) (K : List Int) (kind : Int) : ∀ (l : List Int) (x : Int), kidsB T K kind (l ++ [x]) = kidsB T K kind l ++ (if kind = 8 ∧ l ≠ [] then [124] else []) ++ kidB T K kind x
  | [], x => by simp [kidsB]
  | [k], x => by
    show kidsB T K kind [k, x] = _
    rw [kidsB_cons]
    simp [kidsB]
  | k :: y :: r, x => by
    have h := kidsB_next T K kind (y :: r) x
    rw [show k :: y :: r ++ [x] = k :: y :: (r ++ [x]) from rfl, kidsB_cons, show y :: (r ++ [x]) = (y :: r) ++ [x] from rfl, h, kidsB_cons]
    simp
theorem kidsB_pref (T : List (List UInt8)) (K : List Int) (kind : Int) (l : List Int) : ∀ m, (kidsB T K kind l).length ≤ (kidsB T K kind (l ++ m)).length := by
  intro m
  induction m generalizing l with
  | nil => simp
  | cons x m ih =>
    rw [show l ++ x :: m = l ++ [x] ++ m by simp]
    refine Nat.le_trans ?_ (ih (l ++ [x]))
    rw [kidsB_next]
    simp only [List.length_append]
    omega
theorem kidsB_take (T : List (List UInt8)) (K : List Int) (kind : Int) (l : List Int) (j : Nat) : (kidsB T K kind (l.take j)).length ≤ (kidsB T K kind l).length := by
  have := kidsB_pref T K kind (l.take j) (l.drop j)
  rwa [List.take_append_drop] at this
theorem kidsB_nextJ (T : List (List UInt8)) (K : List Int) (kind : Int) {l : List Int} {j : Nat} (hj : j < l.length) : kidsB T K kind (l.take (j + 1)) = kidsB T K kind (l.take j) ++ (if kind = 8 ∧ j ≠ 0 then [124] else []) ++ kidB T K kind l[j] := by
  rw [List.take_succ_eq_append_getElem hj, kidsB_next]
  have e : (l.take j ≠ []) ↔ j ≠ 0 := by
    rw [← List.length_pos_iff, List.length_take]
    omega
  simp only [e]
theorem nodeS_long {T : List (List UInt8)} {K : List Int} {v : NdV} (h : ∀ l, nodeT T K v = some l → 1000 < l.length) : nodeS T K v = none := by
  unfold nodeS
  split
  · next t ht => rw [if_pos (h t ht)]
  · rfl
theorem setT_long {neg : Bool} {set : List Int} {k : Nat} (he : k % 2 = 0) (h : 1000 < ((if neg = true then [91, 94] else [91]) ++ prsB (set.take k)).length) : ∀ l, setT neg set = some l → 1000 < l.length := by
  intro l hl
  unfold setT at hl
  split at hl
  · simp only [Option.some.injEq] at hl
    rw [← hl]
    have := prsB_pref (l := set) he
    simp only [List.length_append] at *
    omega
  · cases hl

set_option maxHeartbeats 8000000 in
set_option maxRecDepth 40000 in
theorem specRxText_any (a : Option Addr) (cap n : Nat) (Q : List NdQ) (w : World) (h : NdR w a Q) (hn : Q.length = n) (hl : n ≤ 1048576) (hql : ∀ q ∈ Q, q.sl ≤ 1048576 ∧ q.kl ≤ 1048576) :
    Calls Tryd.prog 5 #[.agg #[.slice a n cap]] w fun e w' => e = .returned (.string (ofL (rxT (ndsOf Q)))) ∧ Below w.heap.size w w' := by
  have HR := Lib.hid h
  have HL := Lib.hid hql
  have HN := Lib.hid hn
  clear h hql hn
  obtain ⟨u, hu, hsz, hbu, hc0⟩ := rx_box w (.slice a n cap) 29
  have HU := Lib.hid hbu
  have hlt0 : w.heap.size < u.heap.size := by omega
  have HTR0 := Lib.hid (specTree_any a cap n Q u (HR.out.below hbu) HN.out hl HL.out)
  clear hbu hsz
  go_enter Tryd.func5, Tryd.ntmps5
  go_wp2_with fail
  refine HTR0.out.mono ?_
  rintro e w1 ⟨rfl, hb1⟩
  have hc1 : w1.cell? ⟨w.heap.size, 0, none⟩ = some (.slice a n cap) := by rw [hb1.cell (p := ⟨w.heap.size, 0, none⟩) (by show w.heap.size < _; exact hlt0)]; exact hc0
  have HU1 := Lib.hid (HU.out.trans (hb1.mono HU.out.size))
  have HSZ1 := Lib.hid (show w.heap.size < w1.heap.size from Nat.lt_of_lt_of_le hlt0 hb1.size)
  clear hb1
  cases hT : treeB (kidsOf Q)
  · have HX := Lib.hid (show rxT (ndsOf Q) = [] from rxT_no (by rw [← hT, ← ndsOf_kids]))
    go_wp2
    go_ret
    rw [HX.out]
    exact ⟨rfl, HU1.out⟩
  have HTR := Lib.hid (treeB_ok hT)
  have HTY := Lib.hid hT
  have hn0 : 0 < n := by have := HTR.out.1; rw [kidsOf_len, HN.out] at this; exact this
  have hpos : 0 < Q.length := by rw [HN.out]; omega
  obtain ⟨hr1, hr2⟩ := HR.out
  rcases hr1 with h0 | ⟨b, off, rfl, hbl, hc⟩
  · rw [h0] at hpos; exact absurd hpos (Nat.lt_irrefl _)
  have HCC := Lib.hid hc
  have HFN := Lib.hid hr2
  have HKN := Lib.hid (show (kidsOf Q).length = n by rw [kidsOf_len]; exact HN.out)
  have hmk := makeStrsX n (by omega)
  have HF := Lib.hid (fillStrsX w1 n)
  clear hc hr2 hpos hT
  go_wp2
  clear hmk
  go_loopw [4] (fun i wr => ∃ (k : Nat) (T : List (List UInt8)), k ≤ n ∧ i = .int .i64 k ∧ txtsL (ndsOf Q) k = some T ∧ Fill w1 wr w1.heap.size n (txtF T)) (fun i _ => n - (intOf i).toNat)
  case atStart => exact ⟨0, [], Nat.zero_le _, rfl, rfl, HF.out.congr (fun j hj => by simp [txtF, ofL]; rfl)⟩
  case round =>
    obtain ⟨k, T, hk, rfl, htx, hfill⟩ := hrel
    have HTX := Lib.hid htx
    have HI := Lib.hid hfill
    have hbx : wr.cell? ⟨w.heap.size, 0, none⟩ = some (.slice (some ⟨b, off, none⟩) n cap) := by rw [hfill.below.cell (p := ⟨w.heap.size, 0, none⟩) (by show w.heap.size < _; exact HSZ1.out)]; exact hc1
    by_cases hlt : k < n
    · have hkQ : k < Q.length := by rw [HN.out]; exact hlt
      have hblu : b < w1.heap.size := Nat.lt_of_lt_of_le hbl HU1.out.size
      have hcq := ((HCC.out k hkQ).below HU1.out hbl).below hfill.below hblu
      have HFQ := Lib.hid (((HFN.out _ (List.getElem_mem hkQ)).below HU1.out).below hfill.below)
      have HKG := Lib.hid (kidsOf_get hkQ)
      have hll := HL.out _ (List.getElem_mem hkQ)
      have HVK := Lib.hid (show (ndsOf Q).getD k (0, 0, 0, false, [], []) = Q[k].val by simp [ndsOf, hkQ])
      have HKR := Lib.hid (show ∀ x ∈ Q[k].kids, 0 ≤ x ∧ x < (k : Int) from fun x hx => by
        have h1 : k < (kidsOf Q).length := by rw [HKN.out]; exact hlt
        have h2 := HTR.out.2.1 k h1 x (by
          have e : (kidsOf Q)[k] = Q[k].kids := by
            have := HKG.out
            rw [List.getD_eq_getElem?_getD, List.getElem?_eq_getElem h1] at this
            exact this
          rw [e]; exact hx)
        omega)
      generalize Q[k] = q at *
      obtain ⟨op, qa, qb, neg, sa, sl, sc, set, ka, kl, kc, kids⟩ := q
      obtain ⟨d0, d1, d2, d3, d4, d5⟩ := hcq
      simp only [] at d0 d1 d2 d3 d4 d5 hll
      have HSLN := Lib.hid (show set.length = sl from HFQ.out.2.1.1)
      have HKLN := Lib.hid (show kids.length = kl from HFQ.out.2.1.2)
      have HO64 := Lib.hid (show (Nd64 op ∧ Nd64 qa ∧ Nd64 qb) from ⟨HFQ.out.2.2.2.1, HFQ.out.2.2.2.2.1, HFQ.out.2.2.2.2.2.1⟩)
      obtain ⟨wn, hwn, s5, b5, ⟨c0, c1, c2, c3, c4, c5⟩, hf5⟩ := laid6 wr (.int .i64 op) (.int .i64 qa) (.int .i64 qb) (.bool neg) (.slice sa sl sc) (.slice ka kl kc) 38
      have HI5 := Lib.hid (HI.out.from b5)
      have hb1n : Below w1.heap.size w1 wn := HI5.out.below
      have hbn : wn.cell? ⟨w.heap.size, 0, none⟩ = some (.slice (some ⟨b, off, none⟩) n cap) := by rw [hb1n.cell (p := ⟨w.heap.size, 0, none⟩) (by show w.heap.size < _; exact HSZ1.out)]; exact hc1
      have HRS := Lib.hid ((HFQ.out.1.1.below b5 : RowI .i64 wn sa set))
      have HRK := Lib.hid ((HFQ.out.1.2.below b5 : RowI .i64 wn ka kids))
      have HBN := Lib.hid (HU1.out.trans (hb1n.mono HU1.out.size))
      have hwz : wr.heap.size < wn.heap.size := by omega
      obtain ⟨hTl, hTs⟩ := txtsL_len htx
      have HTL := Lib.hid hTl
      have HTS := Lib.hid hTs
      obtain ⟨K, hKd⟩ : ∃ K, (ndsOf Q).map (fun v => v.1) = K := ⟨_, rfl⟩
      have HKD := Lib.hid hKd
      have HNI := Lib.hid (fun (hx : nodeS T K (op, qa, qb, neg, set, kids) = none) => (show rxT (ndsOf Q) = [] from rxT_stop (j := k + 1) (by rw [ndsOf_len, HN.out]; omega) (txtsL_stop HTX.out (by rw [HVK.out, HKD.out]; exact hx))))
      have HNX := Lib.hid (fun l (hx : nodeS T K (op, qa, qb, neg, set, kids) = some l) => (show txtsL (ndsOf Q) (k + 1) = some (T ++ [l]) from txtsL_next HTX.out (by rw [HVK.out, HKD.out]; exact hx)))
      clear HFQ HKG HVK hkQ b5 s5 hf5 hTl hTs htx hfill hKd
      go_upto_block 2 with fail
      go_cut [6, 7, 8, 9, 10] from 18 to 233 (fun s6 _ _ _ _ wx => ∃ l, s6 = .string (ofL l) ∧ nodeT T K (op, qa, qb, neg, set, kids) = some l ∧ l.length ≤ 200000 ∧ Below wn.heap.size wn wx)
      case first =>
        as_aux_lemma =>
        by_cases h1 : op = 1
        · as_aux_lemma =>
          have HV := Lib.hid (show nodeT T K (op, qa, qb, neg, set, kids) = some [] by subst h1; simp [nodeT])
          subst h1
          go_wp2
          go_meet
          exact ⟨_, rfl, HV.out, by simp, Below.refl _ _⟩
        by_cases h3 : op = 3
        · as_aux_lemma =>
          have HV := Lib.hid (show nodeT T K (op, qa, qb, neg, set, kids) = some [46] by subst h3; simp [nodeT])
          subst h3
          go_wp2
          go_meet
          exact ⟨_, rfl, HV.out, by simp, Below.refl _ _⟩
        by_cases h5 : op = 5
        · as_aux_lemma =>
          have HV := Lib.hid (show nodeT T K (op, qa, qb, neg, set, kids) = some [94] by subst h5; simp [nodeT])
          subst h5
          go_wp2
          go_meet
          exact ⟨_, rfl, HV.out, by simp, Below.refl _ _⟩
        by_cases h6 : op = 6
        · as_aux_lemma =>
          have HV := Lib.hid (show nodeT T K (op, qa, qb, neg, set, kids) = some [36] by subst h6; simp [nodeT])
          subst h6
          go_wp2
          go_meet
          exact ⟨_, rfl, HV.out, by simp, Below.refl _ _⟩
        by_cases h2 : op = 2
        · as_aux_lemma =>
          have HV := Lib.hid (show nodeT T K (op, qa, qb, neg, set, kids) = (if isPt qa = true then some (chB qa (bs sgnA)) else none) by subst h2; unfold nodeT; rw [if_neg (show ¬ (2 : Int) = 1 by decide), if_pos rfl])
          subst h2
          cases hp : isPt qa
          · rw [hp, if_neg (by simp)] at HV
            have HX := Lib.hid (HNI.out (nodeS_none HV.out))
            have HPT := Lib.hid (l01Point_any qa)
            rw [hp] at HPT
            clear hp
            go_wp2_with fail
            refine (HPT.out _).mono ?_
            rintro e w2 ⟨rfl, hw2⟩
            obtain rfl : wn = w2 := hw2.symm
            go_wp2
            go_ret
            rw [HX.out]
            exact ⟨rfl, HBN.out⟩
          · rw [hp, if_pos rfl] at HV
            have HPT := Lib.hid (l01Point_any qa)
            rw [hp] at HPT
            have HCH := Lib.hid (show Calls Tryd.prog 12 #[.int .i64 qa, .string ⟨#[92, 94, 36, 46, 91, 124, 40, 41, 42, 43, 63, 123]⟩] wn (fun e w' => e = .returned (.string (ofL (chB qa (bs sgnA)))) ∧ Below wn.heap.size wn w') from l05Char_any qa sgnA wn hp sgnA_asc (by decide))
            clear hp
            go_wp2_with fail
            refine (HPT.out _).mono ?_
            rintro e w2 ⟨rfl, hw2⟩
            obtain rfl : wn = w2 := hw2.symm
            go_wp2_with fail
            refine HCH.out.mono ?_
            rintro e w2 ⟨rfl, hb2⟩
            have HB2 := Lib.hid hb2
            clear hb2
            go_wp2
            go_meet
            exact ⟨_, rfl, HV.out, by have := chB_len qa (bs sgnA); omega, HB2.out⟩
        by_cases h4 : op = 4
        · as_aux_lemma =>
          have HV := Lib.hid (show nodeT T K (op, qa, qb, neg, set, kids) = setT neg set by subst h4; unfold nodeT setT; rw [if_neg (show ¬ (4 : Int) = 1 by decide), if_neg (show ¬ (4 : Int) = 2 by decide), if_neg (show ¬ (4 : Int) = 3 by decide), if_neg (show ¬ (4 : Int) = 5 by decide), if_neg (show ¬ (4 : Int) = 6 by decide), if_pos rfl])
          subst h4
          have HSN := Lib.hid (fun (h : setT neg set = none) => HNI.out (nodeS_none (HV.out.trans h)))
          have HSX := Lib.hid (fun (h : ∀ l, setT neg set = some l → 1000 < l.length) => HNI.out (nodeS_long (fun l hl => h l (HV.out.symm.trans hl))))
          have hsl := HSLN.out
          have hll1 := hll.1
          by_cases hodd : sl % 2 = 1
          · have hm : Int.tmod (sl : Int) 2 = 1 := by rw [Int.tmod_eq_emod_of_nonneg (by omega)]; omega
            have HX := Lib.hid (HSN.out (setT_no (fun h => by have := h.1; omega)))
            clear hodd hsl
            go_wp2
            go_ret
            rw [HX.out]
            exact ⟨rfl, HBN.out⟩
          have hm : Int.tmod (sl : Int) 2 = 0 := by rw [Int.tmod_eq_emod_of_nonneg (by omega)]; omega
          have HEV := Lib.hid (show sl % 2 = 0 by omega)
          obtain ⟨pre, hpre⟩ : ∃ pre : List UInt8, (if neg = true then [91, 94] else [91]) = pre := ⟨_, rfl⟩
          have HPRE := Lib.hid hpre
          have HPL := Lib.hid (show 1 ≤ pre.length ∧ pre.length ≤ 2 by rw [← hpre]; split <;> simp)
          have HP1 := Lib.hid (fun (h : neg = true) => (show (⟨#[91, 94]⟩ : ByteArray) = ofL pre by rw [← HPRE.out, h]; rfl))
          have HP2 := Lib.hid (fun (h : neg = false) => (show (⟨#[91]⟩ : ByteArray) = ofL pre by rw [← HPRE.out, h]; rfl))
          have HC4 := Lib.hid (fun W (hb : Below wn.heap.size wn W) => (show W.cell? ⟨wr.heap.size, 4, none⟩ = some (.slice sa sl sc) by rw [hb.cell (p := ⟨wr.heap.size, 4, none⟩) (by show wr.heap.size < _; exact hwz)]; exact c4))
          have HSO := Lib.hid (fun (k2 : Nat) (t : ByteArray) (h : t = ofL (pre ++ prsB (set.take k2))) (he : k2 % 2 = 0) (hb : 1000 < t.size) => HSX.out (setT_long (k := k2) he (by rw [HPRE.out]; rw [h, size_ofL] at hb; exact hb)))
          have HSP := Lib.hid (fun (k2 : Nat) (hk : k2 < set.length) (h : isPt set[k2] = false) => HSN.out (setT_no (fun h2 => by
            have := List.all_eq_true.1 h2.2.2 _ (List.getElem_mem hk)
            rw [h] at this; cases this)))
          have HLE := Lib.hid (fun (k2 : Nat) (t : ByteArray) (h : t = ofL (pre ++ prsB (set.take k2))) (he : k2 % 2 = 0) (hk : k2 ≤ sl) (hb : t.size ≤ 1000) => (show k2 + 2 ≤ 2000 by
            have h1 := prsB_more (set.take k2)
            have h2 := HPL.out.1
            rw [h, size_ofL, List.length_append] at hb
            rw [List.length_take, HSLN.out] at h1
            omega))
          have HNX4 := Lib.hid (fun (k2 : Nat) (t : ByteArray) (h : t = ofL (pre ++ prsB (set.take k2))) (hk : k2 + 1 < set.length) (he : k2 % 2 = 0) => (show
              (set[k2] = set[k2 + 1] → t ++ ofL (chB set[k2] (bs sgnB)) = ofL (pre ++ prsB (set.take (k2 + 2)))) ∧ (set[k2] ≠ set[k2 + 1] → t ++ ofL (chB set[k2] (bs sgnB)) ++ ⟨#[45]⟩ ++ ofL (chB set[k2 + 1] (bs sgnB)) = ofL (pre ++ prsB (set.take (k2 + 2)))) from by
            rw [prsB_next hk he, h]
            refine ⟨fun e => ?_, fun e => ?_⟩
            · rw [if_pos e]; exact bs_inj (by simp [bs, ofL])
            · rw [if_neg e]; exact bs_inj (by simp [bs, ofL])))
          have HPA := Lib.hid (fun (k2 : Nat) (hk : k2 + 1 < set.length) (h : (set.take k2).all isPt = true) (h0 : isPt set[k2] = true) (h1 : isPt set[k2 + 1] = true) => (show (set.take (k2 + 2)).all isPt = true by
            rw [List.take_succ_eq_append_getElem (show k2 + 1 < set.length from hk), List.take_succ_eq_append_getElem (show k2 < set.length by omega), List.all_append, List.all_append, h]
            simp [h0, h1]))
          have HEND := Lib.hid (fun (t : ByteArray) (h : t = ofL (pre ++ prsB (set.take sl))) (ha : (set.take sl).all isPt = true) (hs : sl ≤ 2000) => (show t ++ ⟨#[93]⟩ = ofL (pre ++ prsB set ++ [93]) ∧ nodeT T K (4, qa, qb, neg, set, kids) = some (pre ++ prsB set ++ [93]) ∧ (pre ++ prsB set ++ [93]).length ≤ 200000 by
            rw [List.take_of_length_le (by rw [HSLN.out]; exact Nat.le_refl _)] at h ha
            refine ⟨by rw [h]; exact bs_inj (by simp [bs, ofL]), ?_, ?_⟩
            · rw [HV.out, setT_yes ⟨by rw [HSLN.out]; exact HEV.out, by rw [HSLN.out]; exact hs, ha⟩, HPRE.out]
            · have h1 := prsB_len set
              have h2 := HPL.out.2
              rw [HSLN.out] at h1
              simp only [List.length_append, List.length_cons, List.length_nil]
              omega))
          have hsz0 : (ofL pre).size ≤ 2 := by rw [size_ofL]; exact HPL.out.2
          clear hsl hodd hpre
          go_upto_if 57 with fail
          go_cut [6] from 18 to 233 (fun s6 wx => s6 = .string (ofL pre) ∧ wx = wn)
          case first =>
            as_aux_lemma =>
            cases hng : neg
            · have HE := Lib.hid (HP2.out hng)
              subst hng
              go_wp2_with fail
              go_meet
              exact ⟨congrArg Value.string HE.out, rfl⟩
            · have HE := Lib.hid (HP1.out hng)
              subst hng
              go_wp2_with fail
              go_meet
              exact ⟨congrArg Value.string HE.out, rfl⟩
          case rest =>
            as_aux_lemma =>
            obtain ⟨rfl, hw⟩ := hcut
            obtain rfl := hw.symm
            go_wp2_with fail
            go_loopw [6, 7] (fun s i wy => ∃ (k2 : Nat) (t : ByteArray), k2 ≤ sl ∧ k2 % 2 = 0 ∧ k2 ≤ 2000 ∧ t.size ≤ 2000 ∧ (set.take k2).all isPt = true ∧ s = .string t ∧ i = .int .i64 k2 ∧ t = ofL (pre ++ prsB (set.take k2)) ∧ Below wn.heap.size wn wy) (fun _ i _ => sl - (intOf i).toNat)
            case atStart =>
              refine ⟨0, _, Nat.zero_le _, rfl, by omega, ?_, rfl, rfl, rfl, ?_, Below.refl _ _⟩
              · omega
              · rw [List.take_zero, show prsB [] = [] from rfl, List.append_nil]
            case round =>
              as_aux_lemma =>
              obtain ⟨k2, t, hk, hev, hk2, hts, hall, rfl, rfl, ht, hb⟩ := hrel
              have HB := Lib.hid hb
              have d4 := HC4.out _ hb
              by_cases hkl : k2 < sl
              · have hks : k2 < set.length := by rw [HSLN.out]; exact hkl
                have hk1 : k2 + 1 < sl := by have := HEV.out; omega
                have hks1 : k2 + 1 < set.length := by rw [HSLN.out]; exact hk1
                by_cases hbig : 1000 < t.size
                · have HX := Lib.hid (HSO.out k2 t ht hev hbig)
                  have hbI : (1000 : Int) < (t.size : Int) := by omega
                  clear ht hev hall hbig hks hks1 hk1
                  go_wp2
                  go_ret
                  rw [HX.out]
                  exact ⟨rfl, HBN.out.trans (HB.out.mono HBN.out.size)⟩
                have hbI : ¬ (1000 : Int) < (t.size : Int) := by omega
                have hl2 := HLE.out k2 t ht hev hk (by omega)
                have HN := Lib.hid (HNX4.out k2 t ht hks1 hev)
                have HP0 := Lib.hid (HSP.out k2 hks)
                have HP1 := Lib.hid (HSP.out (k2 + 1) hks1)
                have HPB := Lib.hid (HPA.out k2 hks1 hall)
                have HE := Lib.hid hev
                have hR := HRS.out.below hb
                rcases hR with h0 | ⟨b2, off2, rfl, hbl2, hc2⟩
                · rw [h0] at hks; exact absurd hks (Nat.not_lt_zero _)
                have hx0 : wr.cell? ⟨b2, off2 + k2, none⟩ = some (.int .i64 set[k2]) := by rw [hc2 k2 hks]; simp [List.getElem?_eq_getElem hks]
                have hx1 : wr.cell? ⟨b2, off2 + (k2 + 1), none⟩ = some (.int .i64 set[k2 + 1]) := by rw [hc2 (k2 + 1) hks1]; simp [List.getElem?_eq_getElem hks1]
                have hl0 := chB_len set[k2] (bs sgnB)
                have hl1 := chB_len set[k2 + 1] (bs sgnB)
                rw [← size_ofL] at hl0 hl1
                have HCH0 := Lib.hid (fun (hp : isPt set[k2] = true) W => (show Calls Tryd.prog 12 #[.int .i64 set[k2], .string ⟨#[92, 93, 91, 94, 45]⟩] W (fun e w' => e = .returned (.string (ofL (chB set[k2] (bs sgnB)))) ∧ Below W.heap.size W w') from l05Char_any set[k2] sgnB W hp sgnB_asc (by decide)))
                have HCH1 := Lib.hid (fun (hp : isPt set[k2 + 1] = true) W => (show Calls Tryd.prog 12 #[.int .i64 set[k2 + 1], .string ⟨#[92, 93, 91, 94, 45]⟩] W (fun e w' => e = .returned (.string (ofL (chB set[k2 + 1] (bs sgnB)))) ∧ Below W.heap.size W w') from l05Char_any set[k2 + 1] sgnB W hp sgnB_asc (by decide)))
                generalize set[k2] = x0 at *
                generalize set[k2 + 1] = x1 at *
                generalize ofL (chB x0 (bs sgnB)) = t0 at *
                generalize ofL (chB x1 (bs sgnB)) = t1 at *
                have HS1 := Lib.hid (show (t ++ t0).size ≤ 2000 by rw [ByteArray.size_append]; omega)
                have HS2 := Lib.hid (show (t ++ t0 ++ ⟨#[45]⟩ ++ t1).size ≤ 2000 by rw [ByteArray.size_append, ByteArray.size_append, ByteArray.size_append]; show t.size + t0.size + 1 + t1.size ≤ 2000; omega)
                have z1 : IntKind.i64.wrap ((k2 : Int) + 1) = (k2 : Int) + 1 := IntWalk.i64_in _ (by omega)
                have z5 : IntKind.i64.wrap ((k2 : Int) + 2) = (k2 : Int) + 2 := IntWalk.i64_in _ (by omega)
                have z2 : ((k2 : Int) + 1).toNat = k2 + 1 := by omega
                have z3 : (0 : Int) ≤ (k2 : Int) + 1 := by omega
                have z4 : (k2 : Int) + 1 < (sl : Int) := by omega
                have HQ0 := Lib.hid (l01Point_any x0)
                have HQ1 := Lib.hid (l01Point_any x1)
                clear hev ht hc2 hks hks1 hall hbig
                cases hp0 : isPt x0
                · have HX := Lib.hid (HP0.out hp0)
                  rw [hp0] at HQ0
                  clear hp0
                  go_wp2_with fail
                  refine (HQ0.out _).mono ?_
                  rintro e w2 ⟨rfl, hw2⟩
                  obtain rfl : wr = w2 := hw2.symm
                  go_wp2
                  go_ret
                  rw [HX.out]
                  exact ⟨rfl, HBN.out.trans (HB.out.mono HBN.out.size)⟩
                rw [hp0] at HQ0
                have HCA := Lib.hid (HCH0.out hp0)
                cases hp1 : isPt x1
                · have HX := Lib.hid (HP1.out hp1)
                  rw [hp1] at HQ1
                  clear hp0 hp1
                  go_wp2_with fail
                  refine (HQ0.out _).mono ?_
                  rintro e w2 ⟨rfl, hw2⟩
                  obtain rfl : wr = w2 := hw2.symm
                  go_wp2_with fail
                  refine (HQ1.out _).mono ?_
                  rintro e w2 ⟨rfl, hw2⟩
                  obtain rfl : wr = w2 := hw2.symm
                  go_wp2
                  go_ret
                  rw [HX.out]
                  exact ⟨rfl, HBN.out.trans (HB.out.mono HBN.out.size)⟩
                rw [hp1] at HQ1
                have HCB := Lib.hid (HCH1.out hp1)
                have HPC := Lib.hid (HPB.out hp0 hp1)
                clear hp0 hp1
                go_wp2_with fail
                refine (HQ0.out _).mono ?_
                rintro e w2 ⟨rfl, hw2⟩
                obtain rfl : wr = w2 := hw2.symm
                go_wp2_with fail
                refine (HQ1.out _).mono ?_
                rintro e w2 ⟨rfl, hw2⟩
                obtain rfl : wr = w2 := hw2.symm
                go_wp2_with fail
                refine (HCA.out _).mono ?_
                rintro e w1 ⟨rfl, hb1⟩
                have HB1 := Lib.hid (HB.out.trans (hb1.mono HB.out.size))
                have f4 := HC4.out _ HB1.out
                have y0 : w1.cell? ⟨b2, off2 + k2, none⟩ = some (.int .i64 x0) := by rw [hb1.cell (p := ⟨b2, off2 + k2, none⟩) (by show b2 < _; exact hbl2)]; exact hx0
                have y1 : w1.cell? ⟨b2, off2 + (k2 + 1), none⟩ = some (.int .i64 x1) := by rw [hb1.cell (p := ⟨b2, off2 + (k2 + 1), none⟩) (by show b2 < _; exact hbl2)]; exact hx1
                clear hb1
                go_wp2_with fail
                go_quiet (fail)
                by_cases hxx : x0 = x1
                · have HG := Lib.hid (HN.out.1 hxx)
                  have hxb : (x0 != x1) = false := by rw [hxx]; simp
                  clear hx0 hx1
                  have HV1 := HEV.out
                  have HE1 := HE.out
                  go_wp2_with fail
                  refine ⟨⟨k2 + 2, _, by omega, by omega, hl2, HS1.out, HPC.out, rfl, rfl, HG.out, Go.below_drewN HB1.out _⟩, ?_⟩
                  simp only [intOf]; omega
                · have HG := Lib.hid (HN.out.2 hxx)
                  have hxb : (x0 != x1) = true := by simp [hxx]
                  clear hx0 hx1
                  go_wp2_with fail
                  refine (HCB.out _).mono ?_
                  rintro e w2 ⟨rfl, hb2⟩
                  have HB2 := Lib.hid ((Go.below_drewN HB1.out _).trans (hb2.mono (Go.below_drewN HB1.out _).size))
                  clear hb2
                  have HV1 := HEV.out
                  have HE1 := HE.out
                  go_wp2_with fail
                  refine ⟨⟨k2 + 2, _, by omega, by omega, hl2, HS2.out, HPC.out, rfl, rfl, HG.out, HB2.out⟩, ?_⟩
                  simp only [intOf]; omega
              · obtain rfl : k2 = sl := by omega
                have HR := Lib.hid (HEND.out t ht hall hk2)
                clear ht hev hall
                go_wp2
                go_meet
                exact ⟨_, congrArg Value.string HR.out.1, HR.out.2.1, HR.out.2.2, HB.out⟩
        by_cases h7 : op = 7
        · as_aux_lemma =>
          have HV := Lib.hid (show nodeT T K (op, qa, qb, neg, set, kids) = some (kidsB T K 7 kids) by subst h7; unfold nodeT; rw [if_neg (show ¬ (7 : Int) = 1 by decide), if_neg (show ¬ (7 : Int) = 2 by decide), if_neg (show ¬ (7 : Int) = 3 by decide), if_neg (show ¬ (7 : Int) = 5 by decide), if_neg (show ¬ (7 : Int) = 6 by decide), if_neg (show ¬ (7 : Int) = 4 by decide), if_pos (show (7 : Int) = 7 ∨ (7 : Int) = 8 by decide)])
          subst h7
          have hll1 := hll.2
          have HLG := Lib.hid (fun (j : Nat) (t : ByteArray) (h : t = ofL (kidsB T K 7 (kids.take j))) (hb : 1000 < t.size) => HNI.out (by
            rw [nodeS_of HV.out, if_pos]
            have h1 := kidsB_take T K 7 kids j
            rw [h, size_ofL] at hb
            omega))
          have HNXT := Lib.hid (fun (j : Nat) (hj : j < kids.length) (t : ByteArray) (h : t = ofL (kidsB T K 7 (kids.take j))) (y : Nat) (hy : kids[j] = (y : Int)) => (show (¬ ((7 : Int) = 8 ∧ j ≠ 0) → t ++ ofL (kidB T K 7 (y : Int)) = ofL (kidsB T K 7 (kids.take (j + 1)))) ∧ (((7 : Int) = 8 ∧ j ≠ 0) → t ++ ⟨#[124]⟩ ++ ofL (kidB T K 7 (y : Int)) = ofL (kidsB T K 7 (kids.take (j + 1)))) by
            rw [kidsB_nextJ T K 7 hj, hy, h]
            refine ⟨fun e => ?_, fun e => ?_⟩
            · rw [if_neg e]; exact bs_inj (by simp [bs, ofL])
            · rw [if_pos e]; exact bs_inj (by simp [bs, ofL])))
          have HKID := Lib.hid (fun (y : Nat) (hyn : y < n) W (hb : Below wn.heap.size wn W) => (show ∃ (kk : Int) (s : ByteArray), W.cell? ⟨b, off + y * 6, none⟩ = some (.int .i64 kk) ∧ W.cell? ⟨w1.heap.size, y, none⟩ = some (.string s) ∧ s.size ≤ 1000 ∧ (ofL (kidB T K 7 (y : Int))).size ≤ 1002 ∧ (parK 7 kk = true → ⟨#[40]⟩ ++ s ++ ⟨#[41]⟩ = ofL (kidB T K 7 (y : Int))) ∧ (parK 7 kk = false → s = ofL (kidB T K 7 (y : Int))) by
            have hyq : y < Q.length := by rw [HN.out]; exact hyn
            have hKy : K.getD y 0 = Q[y].op := by rw [← HKD.out]; simp [ndsOf, NdQ.val, hyq]
            have hkb : kidB T K 7 (y : Int) = parB (parK 7 Q[y].op) (T.getD y []) := by
              show parB (parK 7 (K.getD y 0)) (T.getD y []) = _
              rw [hKy]
            refine ⟨Q[y].op, ofL (T.getD y []), ?_, ?_, ?_, ?_, fun h => ?_, fun h => ?_⟩
            · rw [hb.cell (p := ⟨b, off + y * 6, none⟩) (by show b < _; exact Nat.lt_of_lt_of_le hblu hb1n.size)]
              exact (((HCC.out y hyq).below HU1.out hbl).below hb1n hblu).1
            · have h := (HI5.out.from hb).cell y hyn
              unfold txtF at h
              exact h
            · rw [size_ofL]; exact getD_small HTS.out y
            · rw [size_ofL]; exact kidB_len (getD_small HTS.out) K 7 (y : Int)
            · rw [hkb, h]; exact bs_inj (by simp [bs, ofL, parB])
            · rw [hkb, h]; exact bs_inj (by simp [bs, ofL, parB])))
          have HC0 := Lib.hid (fun W (hb : Below wn.heap.size wn W) => (show W.cell? ⟨wr.heap.size, 0, none⟩ = some (.int .i64 7) by rw [hb.cell (p := ⟨wr.heap.size, 0, none⟩) (by show wr.heap.size < _; exact hwz)]; exact c0))
          have HC5 := Lib.hid (fun W (hb : Below wn.heap.size wn W) => (show W.cell? ⟨wr.heap.size, 5, none⟩ = some (.slice ka kl kc) by rw [hb.cell (p := ⟨wr.heap.size, 5, none⟩) (by show wr.heap.size < _; exact hwz)]; exact c5))
          have HCX := Lib.hid (fun W (hb : Below wn.heap.size wn W) => (show W.cell? ⟨w.heap.size, 0, none⟩ = some (.slice (some ⟨b, off, none⟩) n cap) by rw [hb.cell (p := ⟨w.heap.size, 0, none⟩) (by show w.heap.size < _; exact Nat.lt_of_lt_of_le HSZ1.out hb1n.size)]; exact hbn))
          have HEX := Lib.hid (fun (t : ByteArray) (h : t = ofL (kidsB T K 7 (kids.take kl))) (hs : t.size ≤ 1000) => (show t = ofL (kidsB T K 7 kids) ∧ (kidsB T K 7 kids).length ≤ 200000 by
            rw [List.take_of_length_le (by rw [HKLN.out]; exact Nat.le_refl _)] at h
            refine ⟨h, ?_⟩
            rw [h, size_ofL] at hs
            omega))
          go_wp2_with fail
          go_loopw [6, 8] (fun s i wy => ∃ (j : Nat) (t : ByteArray), j ≤ kl ∧ t.size ≤ 1000 ∧ s = .string t ∧ i = .int .i64 j ∧ t = ofL (kidsB T K 7 (kids.take j)) ∧ Below wn.heap.size wn wy) (fun _ i _ => kl - (intOf i).toNat)
          case atStart => exact ⟨0, ⟨#[]⟩, Nat.zero_le _, by decide, rfl, rfl, by rw [List.take_zero]; rfl, Below.refl _ _⟩
          case round =>
            as_aux_lemma =>
            obtain ⟨j, t, hj, hts, rfl, rfl, ht, hb⟩ := hrel
            have HB := Lib.hid hb
            have f0 := HC0.out _ hb
            have f5 := HC5.out _ hb
            have fx := HCX.out _ hb
            by_cases hlt2 : j < kl
            · have hks : j < kids.length := by rw [HKLN.out]; exact hlt2
              obtain ⟨hx0, hxn⟩ := HKR.out kids[j] (List.getElem_mem hks)
              obtain ⟨y, hy⟩ : ∃ y : Nat, kids[j] = (y : Int) := ⟨kids[j].toNat, by omega⟩
              have hyk : y < k := by omega
              have hyn : y < n := by omega
              obtain ⟨kk, s, hky, hsy, hss, hps, hgp, hgn⟩ := HKID.out y hyn _ hb
              have HG1 := Lib.hid hgp
              have HG2 := Lib.hid hgn
              have HNN := Lib.hid (HNXT.out j hks t ht y hy)
              have HLN := Lib.hid (HLG.out (j + 1))
              have hR := HRK.out.below hb
              rcases hR with h0 | ⟨b2, off2, rfl, hbl2, hc2⟩
              · rw [h0] at hks; exact absurd hks (Nat.not_lt_zero _)
              have hkx : wr.cell? ⟨b2, off2 + j, none⟩ = some (.int .i64 (y : Int)) := by rw [hc2 j hks, ← hy]; simp [List.getElem?_eq_getElem hks]
              obtain ⟨t2, ht2⟩ : ∃ t2, ofL (kidsB T K 7 (kids.take (j + 1))) = t2 := ⟨_, rfl⟩
              have HT2 := Lib.hid ht2.symm
              rw [ht2] at HNN HLN
              obtain ⟨pt, hpt⟩ : ∃ pt, ofL (kidB T K 7 (y : Int)) = pt := ⟨_, rfl⟩
              rw [hpt] at HNN HG1 HG2 hps
              clear hgp hgn ht2 hpt hc2 hks hx0 hxn hy ht hb
              go_wp2_with fail
              go_quiet (fail)
              go_upto_region 44 with fail
              go_cut [161] from 127 to 179 (fun s161 wx => s161 = .bool (parK 7 kk) ∧ Below wn.heap.size wn wx)
              case first =>
                as_aux_lemma =>
                have HBD := Lib.hid (Go.below_drewN HB.out nq)
                by_cases k8 : kk = 8
                · subst k8
                  go_wp2_with fail
                  go_meet
                  exact ⟨congrArg Value.bool (show true = parK 7 8 by decide), HBD.out⟩
                by_cases k7 : kk = 7
                · subst k7
                  go_wp2_with fail
                  go_meet
                  exact ⟨congrArg Value.bool (show true = parK 7 7 by decide), HBD.out⟩
                by_cases k1 : kk = 1
                · subst k1
                  go_wp2_with fail
                  go_meet
                  exact ⟨congrArg Value.bool (show true = parK 7 1 by decide), HBD.out⟩
                have HPK := Lib.hid (show parK 7 kk = false by unfold parK; rw [if_neg (by decide), if_pos rfl, decide_eq_false_iff_not]; omega)
                have g8 : (kk == 8) = false := by rw [beq_eq_false_iff_ne]; exact k8
                have g7 : (kk == 7) = false := by rw [beq_eq_false_iff_ne]; exact k7
                have g1 : (kk == 1) = false := by rw [beq_eq_false_iff_ne]; exact k1
                go_wp2_with fail
                go_meet
                exact ⟨congrArg Value.bool HPK.out.symm, HBD.out⟩
              case rest =>
                as_aux_lemma =>
                obtain ⟨rfl, hbx⟩ := hcut
                rename World => wx
                have HBX := Lib.hid hbx
                have e0 := HC0.out _ hbx
                clear hbx hkx hky hsy f0 f5 fx
                go_upto_if 161 with fail
                go_cut [10] from 127 to 179 (fun s10 wz => s10 = .string pt ∧ wz = wx)
                case first =>
                  as_aux_lemma =>
                  cases hpk : parK 7 kk
                  · have HE := Lib.hid (HG2.out hpk)
                    clear hpk
                    go_wp2_with fail
                    go_meet
                    exact ⟨congrArg Value.string HE.out, rfl⟩
                  · have HE := Lib.hid (HG1.out hpk)
                    clear hpk
                    go_wp2_with fail
                    go_meet
                    exact ⟨congrArg Value.string HE.out, rfl⟩
                case rest =>
                  as_aux_lemma =>
                  obtain ⟨rfl, hw⟩ := hcut
                  obtain rfl := hw.symm
                  by_cases hj0 : j = 0
                  · have HE := Lib.hid (HNN.out.1 (by omega))
                    have hjI : ¬ (0 : Int) < (j : Int) := by omega
                    clear hj0
                    go_upto_region 49 with fail
                    rw [HE.out]
                    by_cases hbig : 1000 < t2.size
                    · have HX := Lib.hid (HLN.out t2 rfl hbig)
                      have hbI : (1000 : Int) < (t2.size : Int) := by omega
                      clear hbig
                      go_wp2
                      go_ret
                      rw [HX.out]
                      exact ⟨rfl, HBN.out.trans (HBX.out.mono HBN.out.size)⟩
                    · have hbI : ¬ (1000 : Int) < (t2.size : Int) := by omega
                      have hbg := Lib.hid hbig
                      clear hbig
                      go_wp2
                      exact ⟨⟨j + 1, t2, by omega, by have := hbg.out; omega, rfl, by go_num, HT2.out, HBX.out⟩, by simp [intOf]; omega⟩
                  · have HE := Lib.hid (HNN.out.1 (by omega))
                    have hjI : (0 : Int) < (j : Int) := by omega
                    clear hj0
                    go_upto_region 49 with fail
                    rw [HE.out]
                    by_cases hbig : 1000 < t2.size
                    · have HX := Lib.hid (HLN.out t2 rfl hbig)
                      have hbI : (1000 : Int) < (t2.size : Int) := by omega
                      clear hbig
                      go_wp2
                      go_ret
                      rw [HX.out]
                      exact ⟨rfl, HBN.out.trans (HBX.out.mono HBN.out.size)⟩
                    · have hbI : ¬ (1000 : Int) < (t2.size : Int) := by omega
                      have hbg := Lib.hid hbig
                      clear hbig
                      go_wp2
                      exact ⟨⟨j + 1, t2, by omega, by have := hbg.out; omega, rfl, by go_num, HT2.out, HBX.out⟩, by simp [intOf]; omega⟩
            · obtain rfl : j = kl := by omega
              have HR := Lib.hid (HEX.out t ht hts)
              clear ht hb
              go_wp2
              go_meet
              exact ⟨_, congrArg Value.string HR.out.1, HV.out, HR.out.2, HB.out⟩
        by_cases h8 : op = 8
        · as_aux_lemma =>
          have HV := Lib.hid (show nodeT T K (op, qa, qb, neg, set, kids) = some (kidsB T K 8 kids) by subst h8; unfold nodeT; rw [if_neg (show ¬ (8 : Int) = 1 by decide), if_neg (show ¬ (8 : Int) = 2 by decide), if_neg (show ¬ (8 : Int) = 3 by decide), if_neg (show ¬ (8 : Int) = 5 by decide), if_neg (show ¬ (8 : Int) = 6 by decide), if_neg (show ¬ (8 : Int) = 4 by decide), if_pos (show (8 : Int) = 7 ∨ (8 : Int) = 8 by decide)])
          subst h8
          have hll1 := hll.2
          have HLG := Lib.hid (fun (j : Nat) (t : ByteArray) (h : t = ofL (kidsB T K 8 (kids.take j))) (hb : 1000 < t.size) => HNI.out (by
            rw [nodeS_of HV.out, if_pos]
            have h1 := kidsB_take T K 8 kids j
            rw [h, size_ofL] at hb
            omega))
          have HNXT := Lib.hid (fun (j : Nat) (hj : j < kids.length) (t : ByteArray) (h : t = ofL (kidsB T K 8 (kids.take j))) (y : Nat) (hy : kids[j] = (y : Int)) => (show (¬ ((8 : Int) = 8 ∧ j ≠ 0) → t ++ ofL (kidB T K 8 (y : Int)) = ofL (kidsB T K 8 (kids.take (j + 1)))) ∧ (((8 : Int) = 8 ∧ j ≠ 0) → t ++ ⟨#[124]⟩ ++ ofL (kidB T K 8 (y : Int)) = ofL (kidsB T K 8 (kids.take (j + 1)))) by
            rw [kidsB_nextJ T K 8 hj, hy, h]
            refine ⟨fun e => ?_, fun e => ?_⟩
            · rw [if_neg e]; exact bs_inj (by simp [bs, ofL])
            · rw [if_pos e]; exact bs_inj (by simp [bs, ofL])))
          have HKID := Lib.hid (fun (y : Nat) (hyn : y < n) W (hb : Below wn.heap.size wn W) => (show ∃ (kk : Int) (s : ByteArray), W.cell? ⟨b, off + y * 6, none⟩ = some (.int .i64 kk) ∧ W.cell? ⟨w1.heap.size, y, none⟩ = some (.string s) ∧ s.size ≤ 1000 ∧ (ofL (kidB T K 8 (y : Int))).size ≤ 1002 ∧ (parK 8 kk = true → ⟨#[40]⟩ ++ s ++ ⟨#[41]⟩ = ofL (kidB T K 8 (y : Int))) ∧ (parK 8 kk = false → s = ofL (kidB T K 8 (y : Int))) by
            have hyq : y < Q.length := by rw [HN.out]; exact hyn
            have hKy : K.getD y 0 = Q[y].op := by rw [← HKD.out]; simp [ndsOf, NdQ.val, hyq]
            have hkb : kidB T K 8 (y : Int) = parB (parK 8 Q[y].op) (T.getD y []) := by
              show parB (parK 8 (K.getD y 0)) (T.getD y []) = _
              rw [hKy]
            refine ⟨Q[y].op, ofL (T.getD y []), ?_, ?_, ?_, ?_, fun h => ?_, fun h => ?_⟩
            · rw [hb.cell (p := ⟨b, off + y * 6, none⟩) (by show b < _; exact Nat.lt_of_lt_of_le hblu hb1n.size)]
              exact (((HCC.out y hyq).below HU1.out hbl).below hb1n hblu).1
            · have h := (HI5.out.from hb).cell y hyn
              unfold txtF at h
              exact h
            · rw [size_ofL]; exact getD_small HTS.out y
            · rw [size_ofL]; exact kidB_len (getD_small HTS.out) K 8 (y : Int)
            · rw [hkb, h]; exact bs_inj (by simp [bs, ofL, parB])
            · rw [hkb, h]; exact bs_inj (by simp [bs, ofL, parB])))
          have HC0 := Lib.hid (fun W (hb : Below wn.heap.size wn W) => (show W.cell? ⟨wr.heap.size, 0, none⟩ = some (.int .i64 8) by rw [hb.cell (p := ⟨wr.heap.size, 0, none⟩) (by show wr.heap.size < _; exact hwz)]; exact c0))
          have HC5 := Lib.hid (fun W (hb : Below wn.heap.size wn W) => (show W.cell? ⟨wr.heap.size, 5, none⟩ = some (.slice ka kl kc) by rw [hb.cell (p := ⟨wr.heap.size, 5, none⟩) (by show wr.heap.size < _; exact hwz)]; exact c5))
          have HCX := Lib.hid (fun W (hb : Below wn.heap.size wn W) => (show W.cell? ⟨w.heap.size, 0, none⟩ = some (.slice (some ⟨b, off, none⟩) n cap) by rw [hb.cell (p := ⟨w.heap.size, 0, none⟩) (by show w.heap.size < _; exact Nat.lt_of_lt_of_le HSZ1.out hb1n.size)]; exact hbn))
          have HEX := Lib.hid (fun (t : ByteArray) (h : t = ofL (kidsB T K 8 (kids.take kl))) (hs : t.size ≤ 1000) => (show t = ofL (kidsB T K 8 kids) ∧ (kidsB T K 8 kids).length ≤ 200000 by
            rw [List.take_of_length_le (by rw [HKLN.out]; exact Nat.le_refl _)] at h
            refine ⟨h, ?_⟩
            rw [h, size_ofL] at hs
            omega))
          go_wp2_with fail
          go_loopw [6, 8] (fun s i wy => ∃ (j : Nat) (t : ByteArray), j ≤ kl ∧ t.size ≤ 1000 ∧ s = .string t ∧ i = .int .i64 j ∧ t = ofL (kidsB T K 8 (kids.take j)) ∧ Below wn.heap.size wn wy) (fun _ i _ => kl - (intOf i).toNat)
          case atStart => exact ⟨0, ⟨#[]⟩, Nat.zero_le _, by decide, rfl, rfl, by rw [List.take_zero]; rfl, Below.refl _ _⟩
          case round =>
            as_aux_lemma =>
            obtain ⟨j, t, hj, hts, rfl, rfl, ht, hb⟩ := hrel
            have HB := Lib.hid hb
            have f0 := HC0.out _ hb
            have f5 := HC5.out _ hb
            have fx := HCX.out _ hb
            by_cases hlt2 : j < kl
            · have hks : j < kids.length := by rw [HKLN.out]; exact hlt2
              obtain ⟨hx0, hxn⟩ := HKR.out kids[j] (List.getElem_mem hks)
              obtain ⟨y, hy⟩ : ∃ y : Nat, kids[j] = (y : Int) := ⟨kids[j].toNat, by omega⟩
              have hyk : y < k := by omega
              have hyn : y < n := by omega
              obtain ⟨kk, s, hky, hsy, hss, hps, hgp, hgn⟩ := HKID.out y hyn _ hb
              have HG1 := Lib.hid hgp
              have HG2 := Lib.hid hgn
              have HNN := Lib.hid (HNXT.out j hks t ht y hy)
              have HLN := Lib.hid (HLG.out (j + 1))
              have hR := HRK.out.below hb
              rcases hR with h0 | ⟨b2, off2, rfl, hbl2, hc2⟩
              · rw [h0] at hks; exact absurd hks (Nat.not_lt_zero _)
              have hkx : wr.cell? ⟨b2, off2 + j, none⟩ = some (.int .i64 (y : Int)) := by rw [hc2 j hks, ← hy]; simp [List.getElem?_eq_getElem hks]
              obtain ⟨t2, ht2⟩ : ∃ t2, ofL (kidsB T K 8 (kids.take (j + 1))) = t2 := ⟨_, rfl⟩
              have HT2 := Lib.hid ht2.symm
              rw [ht2] at HNN HLN
              obtain ⟨pt, hpt⟩ : ∃ pt, ofL (kidB T K 8 (y : Int)) = pt := ⟨_, rfl⟩
              rw [hpt] at HNN HG1 HG2 hps
              clear hgp hgn ht2 hpt hc2 hks hx0 hxn hy ht hb
              go_wp2_with fail
              go_quiet (fail)
              go_upto_region 44 with fail
              go_cut [161] from 127 to 179 (fun s161 wx => s161 = .bool (parK 8 kk) ∧ Below wn.heap.size wn wx)
              case first =>
                as_aux_lemma =>
                have HBD := Lib.hid (Go.below_drewN HB.out nq)
                by_cases k8 : kk = 8
                · subst k8
                  go_wp2_with fail
                  go_meet
                  exact ⟨congrArg Value.bool (show true = parK 8 8 by decide), HBD.out⟩
                have HPK := Lib.hid (show parK 8 kk = false by unfold parK; rw [if_pos rfl, decide_eq_false_iff_not]; omega)
                have g8 : (kk == 8) = false := by rw [beq_eq_false_iff_ne]; exact k8
                go_wp2_with fail
                go_meet
                exact ⟨congrArg Value.bool HPK.out.symm, HBD.out⟩
              case rest =>
                as_aux_lemma =>
                obtain ⟨rfl, hbx⟩ := hcut
                rename World => wx
                have HBX := Lib.hid hbx
                have e0 := HC0.out _ hbx
                clear hbx hkx hky hsy f0 f5 fx
                go_upto_if 161 with fail
                go_cut [10] from 127 to 179 (fun s10 wz => s10 = .string pt ∧ wz = wx)
                case first =>
                  as_aux_lemma =>
                  cases hpk : parK 8 kk
                  · have HE := Lib.hid (HG2.out hpk)
                    clear hpk
                    go_wp2_with fail
                    go_meet
                    exact ⟨congrArg Value.string HE.out, rfl⟩
                  · have HE := Lib.hid (HG1.out hpk)
                    clear hpk
                    go_wp2_with fail
                    go_meet
                    exact ⟨congrArg Value.string HE.out, rfl⟩
                case rest =>
                  as_aux_lemma =>
                  obtain ⟨rfl, hw⟩ := hcut
                  obtain rfl := hw.symm
                  by_cases hj0 : j = 0
                  · have HE := Lib.hid (HNN.out.1 (by omega))
                    have hjI : ¬ (0 : Int) < (j : Int) := by omega
                    clear hj0
                    go_upto_region 49 with fail
                    rw [HE.out]
                    by_cases hbig : 1000 < t2.size
                    · have HX := Lib.hid (HLN.out t2 rfl hbig)
                      have hbI : (1000 : Int) < (t2.size : Int) := by omega
                      clear hbig
                      go_wp2
                      go_ret
                      rw [HX.out]
                      exact ⟨rfl, HBN.out.trans (HBX.out.mono HBN.out.size)⟩
                    · have hbI : ¬ (1000 : Int) < (t2.size : Int) := by omega
                      have hbg := Lib.hid hbig
                      clear hbig
                      go_wp2
                      exact ⟨⟨j + 1, t2, by omega, by have := hbg.out; omega, rfl, by go_num, HT2.out, HBX.out⟩, by simp [intOf]; omega⟩
                  · have HE := Lib.hid (HNN.out.2 (by first | exact ⟨rfl, hj0⟩ | exact ⟨trivial, hj0⟩ | (simp; exact hj0)))
                    have hjI : (0 : Int) < (j : Int) := by omega
                    clear hj0
                    go_upto_region 49 with fail
                    rw [HE.out]
                    by_cases hbig : 1000 < t2.size
                    · have HX := Lib.hid (HLN.out t2 rfl hbig)
                      have hbI : (1000 : Int) < (t2.size : Int) := by omega
                      clear hbig
                      go_wp2
                      go_ret
                      rw [HX.out]
                      exact ⟨rfl, HBN.out.trans (HBX.out.mono HBN.out.size)⟩
                    · have hbI : ¬ (1000 : Int) < (t2.size : Int) := by omega
                      have hbg := Lib.hid hbig
                      clear hbig
                      go_wp2
                      exact ⟨⟨j + 1, t2, by omega, by have := hbg.out; omega, rfl, by go_num, HT2.out, HBX.out⟩, by simp [intOf]; omega⟩
            · obtain rfl : j = kl := by omega
              have HR := Lib.hid (HEX.out t ht hts)
              clear ht hb
              go_wp2
              go_meet
              exact ⟨_, congrArg Value.string HR.out.1, HV.out, HR.out.2, HB.out⟩
        by_cases h9 : op = 9
        · as_aux_lemma =>
          have HV := Lib.hid (show nodeT T K (op, qa, qb, neg, set, kids) = (if kids.length = 1 ∧ 0 ≤ qa ∧ -1 ≤ qb then some (kidB T K 9 (kids.getD 0 0) ++ oftB qa qb) else none) by subst h9; unfold nodeT; rw [if_neg (show ¬ (9 : Int) = 1 by decide), if_neg (show ¬ (9 : Int) = 2 by decide), if_neg (show ¬ (9 : Int) = 3 by decide), if_neg (show ¬ (9 : Int) = 5 by decide), if_neg (show ¬ (9 : Int) = 6 by decide), if_neg (show ¬ (9 : Int) = 4 by decide), if_neg (show ¬ ((9 : Int) = 7 ∨ (9 : Int) = 8) by decide), if_pos rfl])
          subst h9
          have hkl := HKLN.out
          by_cases hbad : ¬ (kids.length = 1 ∧ 0 ≤ qa ∧ -1 ≤ qb)
          · rw [if_neg hbad] at HV
            have HX := Lib.hid (HNI.out (nodeS_none HV.out))
            rw [hkl] at hbad
            clear hkl
            by_cases hx : kl = 1
            · subst hx
              by_cases hy : qa < 0
              · go_wp2
                go_ret
                rw [HX.out]
                exact ⟨rfl, HBN.out⟩
              · have hz : qb < -1 := by omega
                clear hbad
                go_wp2
                go_ret
                rw [HX.out]
                exact ⟨rfl, HBN.out⟩
            · have e1 : ((kl : Int) != 1) = true := by rw [bne_iff_ne]; omega
              clear hbad
              go_wp2
              go_ret
              rw [HX.out]
              exact ⟨rfl, HBN.out⟩
          have hgood : kids.length = 1 ∧ 0 ≤ qa ∧ -1 ≤ qb := by omega
          rw [if_pos hgood] at HV
          obtain ⟨hk1, hqa, hqb⟩ := hgood
          rw [hkl] at hk1
          obtain ⟨x, hx⟩ : ∃ x, kids = [x] := by
            rw [hk1] at hkl
            match kids, hkl with
            | [x], _ => exact ⟨x, rfl⟩
          subst hx
          obtain ⟨hx0, hxn⟩ := HKR.out x (by simp)
          obtain ⟨y, rfl⟩ : ∃ y : Nat, x = (y : Int) := ⟨x.toNat, by omega⟩
          have hyk : y < k := by omega
          have hyn : y < n := by omega
          have hyq : y < Q.length := by rw [HN.out]; exact hyn
          have huy := HI5.out.cell y hyn
          unfold txtF at huy
          have hky : wn.cell? ⟨b, off + y * 6, none⟩ = some (.int .i64 Q[y].op) := (((HCC.out y hyq).below HU1.out hbl).below hb1n hblu).1
          obtain ⟨kk, hkk⟩ : ∃ kk, Q[y].op = kk := ⟨_, rfl⟩
          rw [hkk] at hky
          have hKy : K.getD y 0 = kk := by rw [← HKD.out, ← hkk]; simp [ndsOf, NdQ.val, hyq]
          obtain ⟨s, hs⟩ : ∃ s, ofL (T.getD y []) = s := ⟨_, rfl⟩
          rw [hs] at huy
          have hbs : T.getD y [] = bs s := by rw [← hs]; simp [bs, ofL]
          have hss : s.size ≤ 1000 := by rw [← hs, size_ofL]; exact getD_small HTS.out y
          obtain ⟨t2, ht2⟩ : ∃ t, ofL (oftB qa qb) = t := ⟨_, rfl⟩
          have hos := oftB_len HO64.out.2.1 HO64.out.2.2
          rw [← size_ofL, ht2] at hos
          have HOF := Lib.hid (fun W => l05Often_any qa qb W HO64.out.2.1 HO64.out.2.2 hqa hqb)
          rw [ht2] at HOF
          have hkb : kidB T K 9 (([(y : Int)] : List Int).getD 0 0) = parB (parK 9 kk) (bs s) := by
            show parB (parK 9 (K.getD y 0)) (T.getD y []) = _
            rw [hKy, hbs]
          have hkl2 := kidB_len (getD_small HTS.out) K 9 (([(y : Int)] : List Int).getD 0 0)
          have HLEN := Lib.hid (show (kidB T K 9 (([(y : Int)] : List Int).getD 0 0) ++ oftB qa qb).length ≤ 200000 by rw [List.length_append, ← size_ofL (oftB qa qb), ht2]; omega)
          obtain ⟨sk, hsk⟩ : ∃ t, ofL (kidB T K 9 (([(y : Int)] : List Int).getD 0 0)) = t := ⟨_, rfl⟩
          have hks : sk.size ≤ 1002 := by rw [← hsk, size_ofL]; omega
          have HGP := Lib.hid (fun (h : parK 9 kk = true) => (show ⟨#[40]⟩ ++ s ++ ⟨#[41]⟩ = sk by
            rw [← hsk, hkb, h]; exact bs_inj (by simp [bs, ofL, parB])))
          have HGN := Lib.hid (fun (h : parK 9 kk = false) => (show s = sk by
            rw [← hsk, hkb, h]; exact bs_inj (by simp [bs, ofL, parB])))
          have HG := Lib.hid (show sk ++ t2 = ofL (kidB T K 9 (([(y : Int)] : List Int).getD 0 0) ++ oftB qa qb) by
            rw [← hsk, ← ht2]; exact bs_inj (by simp [bs, ofL]))
          have hRI := HRK.out
          rcases hRI with h0 | ⟨b2, off2, rfl, hbl2, hc2⟩
          · simp at h0
          have d6 : wn.cell? ⟨b2, off2, none⟩ = some (.int .i64 y) := by have := hc2 0 (by simp); simpa using this
          subst hk1
          clear hc2 hx0 hxn hkl hbad hkb hbs hs ht2 hkl2 hkk hKy hyq hsk
          go_wp2_with fail
          go_quiet (fail)
          go_upto_block 7 with fail
          go_cut [6] from 18 to 233 (fun s6 wx => s6 = .string sk ∧ Below wn.heap.size wn wx)
          case first =>
            as_aux_lemma =>
            have hbd := Go.below_drewN (Below.refl wn.heap.size wn) nq
            have HB2 := Lib.hid hbd
            clear hbd
            by_cases k7 : kk = 7
            · subst k7
              have HG := Lib.hid (HGP.out (by decide))
              go_wp2_with fail
              go_meet
              exact ⟨congrArg Value.string HG.out, HB2.out⟩
            by_cases k8 : kk = 8
            · subst k8
              have HG := Lib.hid (HGP.out (by decide))
              go_wp2_with fail
              go_meet
              exact ⟨congrArg Value.string HG.out, HB2.out⟩
            by_cases k9 : kk = 9
            · subst k9
              have HG := Lib.hid (HGP.out (by decide))
              go_wp2_with fail
              go_meet
              exact ⟨congrArg Value.string HG.out, HB2.out⟩
            by_cases k1 : kk = 1
            · subst k1
              have HG := Lib.hid (HGP.out (by decide))
              go_wp2_with fail
              go_meet
              exact ⟨congrArg Value.string HG.out, HB2.out⟩
            have HG := Lib.hid (HGN.out (by unfold parK; rw [if_neg (by decide), if_neg (by decide), decide_eq_false_iff_not]; omega))
            have g7 : (kk == 7) = false := by rw [beq_eq_false_iff_ne]; exact k7
            have g8 : (kk == 8) = false := by rw [beq_eq_false_iff_ne]; exact k8
            have g9 : (kk == 9) = false := by rw [beq_eq_false_iff_ne]; exact k9
            have g1 : (kk == 1) = false := by rw [beq_eq_false_iff_ne]; exact k1
            go_wp2_with fail
            go_meet
            exact ⟨congrArg Value.string HG.out, HB2.out⟩
          case rest =>
            as_aux_lemma =>
            obtain ⟨rfl, hbx9⟩ := hcut
            rename World => wx
            have HX9 := Lib.hid hbx9
            have e1 : wx.cell? ⟨wr.heap.size, 1, none⟩ = some (.int .i64 qa) := by rw [hbx9.cell (p := ⟨wr.heap.size, 1, none⟩) (by show wr.heap.size < _; exact hwz)]; exact c1
            have e2 : wx.cell? ⟨wr.heap.size, 2, none⟩ = some (.int .i64 qb) := by rw [hbx9.cell (p := ⟨wr.heap.size, 2, none⟩) (by show wr.heap.size < _; exact hwz)]; exact c2
            clear hbx9
            go_wp2_with fail
            refine (HOF.out _).mono ?_
            rintro e w2 ⟨rfl, hb2⟩
            have HB2 := Lib.hid (HX9.out.trans (hb2.mono HX9.out.size))
            clear hb2
            go_wp2_with fail
            go_meet
            exact ⟨_, congrArg Value.string HG.out, HV.out, HLEN.out, HB2.out⟩
        have HV := Lib.hid (show nodeT T K (op, qa, qb, neg, set, kids) = none by unfold nodeT; rw [if_neg h1, if_neg h2, if_neg h3, if_neg h5, if_neg h6, if_neg h4, if_neg (show ¬ (op = 7 ∨ op = 8) by omega), if_neg h9])
        have HX := Lib.hid (HNI.out (nodeS_none HV.out))
        have e1 : (op == 1) = false := by rw [beq_eq_false_iff_ne]; omega
        have e2 : (op == 2) = false := by rw [beq_eq_false_iff_ne]; omega
        have e3 : (op == 3) = false := by rw [beq_eq_false_iff_ne]; omega
        have e4 : (op == 4) = false := by rw [beq_eq_false_iff_ne]; omega
        have e5 : (op == 5) = false := by rw [beq_eq_false_iff_ne]; omega
        have e6 : (op == 6) = false := by rw [beq_eq_false_iff_ne]; omega
        have e7 : (op == 7) = false := by rw [beq_eq_false_iff_ne]; omega
        have e8 : (op == 8) = false := by rw [beq_eq_false_iff_ne]; omega
        have e9 : (op == 9) = false := by rw [beq_eq_false_iff_ne]; omega
        go_wp2
        go_ret
        rw [HX.out]
        exact ⟨rfl, HBN.out⟩
      case rest =>
        as_aux_lemma =>
        obtain ⟨l, rfl, hnt, hll2, hbx2⟩ := hcut
        have HI6 := Lib.hid (HI5.out.from hbx2)
        have HB3 := Lib.hid (HU1.out.trans (HI6.out.below.mono HU1.out.size))
        have hfk := HI6.out.free k hlt
        have hck := HI6.out.cell k hlt
        unfold txtF at hck
        have hsz : (ofL l).size = l.length := size_ofL l
        by_cases hbig : 1000 < l.length
        · have HX := Lib.hid (HNI.out (by rw [nodeS_of hnt, if_pos hbig]))
          have hbI : (1000 : Int) < ((ofL l).size : Int) := by omega
          clear hsz hbig hnt hll2 hbx2
          go_wp2
          go_ret
          rw [HX.out]
          exact ⟨rfl, HB3.out⟩
        · have HNX2 := Lib.hid (HNX.out l (by rw [nodeS_of hnt, if_neg hbig]))
          have HS2 := Lib.hid (txtF_store HI6.out hlt HTL.out l)
          have hbI : ¬ (1000 : Int) < ((ofL l).size : Int) := by omega
          clear hsz hbig hnt hll2 hbx2
          go_wp2
          exact ⟨⟨k + 1, _, by omega, by go_num, HNX2.out, HS2.out⟩, by simp [intOf]; omega⟩
    · obtain rfl : k = n := by omega
      have hfk := HI.out.cell (k - 1) (by omega)
      unfold txtF at hfk
      obtain ⟨hTl, hTs⟩ := txtsL_len htx
      have HX := Lib.hid (show rxT (ndsOf Q) = T.getD (k - 1) [] by
        rw [rxT_yes (by rw [ndsOf_kids]; exact HTY.out) (show txtsL (ndsOf Q) (ndsOf Q).length = some T by rw [ndsOf_len, HN.out]; exact HTX.out)]
        rw [List.getLastD_eq_getLast?, List.getLast?_eq_getElem?, hTl, List.getD_eq_getElem?_getD])
      have hk1 : ((k : Int) - 1) = ((k - 1 : Nat) : Int) := by omega
      generalize T.getD (k - 1) [] = r at *
      clear hTl hTs htx hfill
      go_wp2
      go_ret
      rw [HX.out]
      exact ⟨rfl, HU1.out.trans (HI.out.below.mono HU1.out.size)⟩
end Go.Proofs.YtpolpihgclemnaaDoor

/-
  NfaSound of the specification and of the program. Conditions: bounds.
-/
import Derived.Test.YtobpecgecopdnaaDoorNfaL
import Derived.Test.YtobpecgecopdnaaDoorBetw
namespace Go.Proofs.YtobpecgecopdnaaDoor
open Go.RowKit
set_option linter.unusedVariables false
set_option linter.unusedSimpArgs false

abbrev OpV := Int × Int × Int × Bool × List Int
def setOk (l : List Int) : Bool := (l.length % 2 == 0) && l.all isPt
/-- is an operation at i sound, where the last one is at `last` -/
def opOk (last i : Int) (v : OpV) : Bool :=
  (if v.1 = 1 then isPt v.2.1 else if v.1 = 3 then setOk v.2.2.2.2 else if v.1 = 7 then betw v.2.1 0 last else if v.1 = 6 then betw v.2.1 0 last && betw v.2.2.1 0 last else true) && betw v.1 1 8 && ((v.1 == 8) == (i == last))
def nfaOk (L : List OpV) : Bool := betw ((L.length : Int) - 1) 0 3999 && (List.range L.length).all fun i => opOk ((L.length : Int) - 1) i (L.getD i (0, 0, 0, false, []))
theorem nfaOk_no {L : List OpV} {n i : Nat} (hn : L.length = n) (hi : i < n) (h : opOk ((n : Int) - 1) i (L.getD i (0, 0, 0, false, [])) = false) : nfaOk L = false := by
  unfold nfaOk
  rw [hn, Bool.and_eq_false_iff]
  right
  rw [List.all_eq_false]
  exact ⟨i, List.mem_range.2 hi, by rw [h]; simp⟩
theorem nfaOk_yes {L : List OpV} {n : Nat} (hn : L.length = n) (hb : betw ((n : Int) - 1) 0 3999 = true) (h : ∀ i, i < n → opOk ((n : Int) - 1) i (L.getD i (0, 0, 0, false, [])) = true) : nfaOk L = true := by
  unfold nfaOk
  rw [hn, hb, Bool.true_and, List.all_eq_true]
  exact fun i hi => h i (List.mem_range.1 hi)
theorem opsNext {P : Nat → Prop} {k : Nat} (h : ∀ j, j < k → P j) (hk : P k) : ∀ j, j < k + 1 → P j := fun j hj => by
  by_cases e : j = k
  · subst e; exact hk
  · exact h j (by omega)
theorem setOk_odd {l : List Int} (h : l.length % 2 ≠ 0) : setOk l = false := by
  unfold setOk
  have : (l.length % 2 == 0) = false := by simpa using h
  rw [this, Bool.false_and]
theorem setOk_no {l : List Int} {j : Nat} (hj : j < l.length) (h : isPt l[j] = false) : setOk l = false := by
  unfold setOk
  rw [Bool.and_eq_false_iff]
  right
  rw [List.all_eq_false]
  exact ⟨l[j], List.getElem_mem hj, by rw [h]; simp⟩
theorem setOk_yes {l : List Int} (h : l.length % 2 = 0) (ha : ∀ j, (hj : j < l.length) → isPt l[j] = true) : setOk l = true := by
  unfold setOk
  rw [h, List.all_eq_true.2 (fun x hx => by obtain ⟨i, hi, rfl⟩ := List.getElem_of_mem hx; exact ha i hi)]
  rfl
theorem valsOf_get {Q : List OpQ} {k : Nat} (h : k < Q.length) : (valsOf Q).getD k (0, 0, 0, false, []) = (Q[k]).val := by
  unfold valsOf
  rw [List.getD_eq_getElem?_getD, List.getElem?_map, List.getElem?_eq_getElem h]
  rfl
theorem valsOf_len (Q : List OpQ) : (valsOf Q).length = Q.length := by unfold valsOf; rw [List.length_map]
theorem opOk_pt {last i a b : Int} {neg : Bool} {set : List Int} (h : ¬ i = last) : opOk last i (1, a, b, neg, set) = isPt a := by
  have : (i == last) = false := by simpa using h
  simp [opOk, betw, this]
theorem opOk_set {last i a b : Int} {neg : Bool} {set : List Int} (h : ¬ i = last) : opOk last i (3, a, b, neg, set) = setOk set := by
  have : (i == last) = false := by simpa using h
  simp [opOk, betw, this]
theorem opOk_jump {last i a b : Int} {neg : Bool} {set : List Int} (h : ¬ i = last) : opOk last i (7, a, b, neg, set) = betw a 0 last := by
  have : (i == last) = false := by simpa using h
  simp [opOk, betw, this]
theorem opOk_split {last i a b : Int} {neg : Bool} {set : List Int} (h : ¬ i = last) : opOk last i (6, a, b, neg, set) = (betw a 0 last && betw b 0 last) := by
  have : (i == last) = false := by simpa using h
  simp [opOk, betw, this]
theorem opOk_any {last i op a b : Int} {neg : Bool} {set : List Int} (h : ¬ i = last) (h1 : ¬ op = 1) (h3 : ¬ op = 3) (h7 : ¬ op = 7) (h6 : ¬ op = 6) (h8 : ¬ op = 8) : opOk last i (op, a, b, neg, set) = betw op 1 8 := by
  have e1 : (i == last) = false := by simpa using h
  have e2 : (op == 8) = false := by simpa using h8
  simp [opOk, e1, e2, h1, h3, h7, h6]
theorem opOk_fits {last i a b : Int} {neg : Bool} {set : List Int} : opOk last i (8, a, b, neg, set) = (i == last) := by
  simp [opOk, betw]

theorem nfa_box (w : World) (v : Value) (t : TypeId) : ∃ u, w.alloc (.cells #[v] t) = u ∧ u.heap.size = w.heap.size + 1 ∧ Below w.heap.size w u ∧ u.cell? ⟨w.heap.size, 0, none⟩ = some v :=
  ⟨_, rfl, by simp, (Below.refl _ _).alloc (Nat.le_refl _) _, by simp⟩
set_option maxHeartbeats 2000000 in
set_option maxRecDepth 20000 in
theorem specNfaSound_any (a : Option Addr) (cap n : Nat) (Q : List OpQ) (w : World) (h : OpR w a Q) (hn : Q.length = n) (hl : n ≤ 1048576) (hql : ∀ q ∈ Q, q.sl ≤ 1048576) :
    Calls Tryd.prog 23 #[.agg #[.slice a n cap]] w fun e w' => e = .returned (.bool (nfaOk (valsOf Q))) ∧ Below w.heap.size w w' := by
  have HR := Lib.hid h
  have HL := Lib.hid hql
  have HN := Lib.hid hn
  clear h hql hn
  obtain ⟨u, hu, hsz, hbu, hc0⟩ := nfa_box w (.slice a n cap) 32
  by_cases hn1 : n < 1
  · have hno : nfaOk (valsOf Q) = false := by unfold nfaOk; rw [valsOf_len, HN.out]; simp [betw]; omega
    rw [hno]
    clear hno
    obtain rfl : n = 0 := by omega
    go_enter Tryd.func23, Tryd.ntmps23
    go_wp2
    go_ret
    exact ⟨rfl, hbu⟩
  by_cases hn2 : n > 4000
  · have hno : nfaOk (valsOf Q) = false := by unfold nfaOk; rw [valsOf_len, HN.out]; simp [betw]; omega
    rw [hno]
    clear hno
    go_enter Tryd.func23, Tryd.ntmps23
    go_wp2
    go_ret
    exact ⟨rfl, hbu⟩
  have hlast : n - 1 < Q.length := by rw [HN.out]; omega
  obtain ⟨hr1, hr2⟩ := HR.out
  rcases hr1 with h0 | ⟨b, off, rfl, hbl, hc⟩
  · rw [h0] at hlast; exact absurd hlast (Nat.not_lt_zero _)
  have HCC := Lib.hid hc
  have hcl := ((hc (n - 1) hlast).below hbu hbl).1
  have hnn : (n : Int) - 1 = ((n - 1 : Nat) : Int) := by omega
  by_cases h8 : (Q[n - 1]).op = 8
  case neg =>
    have hno : nfaOk (valsOf Q) = false := by
      refine nfaOk_no (n := n) (i := n - 1) (by rw [valsOf_len]; exact HN.out) (by omega) ?_
      rw [valsOf_get hlast, ← hnn]
      have : ((Q[n - 1]).op == 8) = false := by simpa using h8
      simp [opOk, OpQ.val, this]
    rw [hno]
    clear hno hc hr2
    generalize Q[n - 1] = q at *
    have h8' : (q.op != 8) = true := by simpa using h8
    go_enter Tryd.func23, Tryd.ntmps23
    go_wp2
    go_ret
    exact ⟨rfl, hbu⟩
  rw [h8] at hcl
  have H8 := Lib.hid h8
  have HU := Lib.hid hbu
  have HSZ := Lib.hid hsz
  clear h8 hc hr2 hbu hsz
  go_enter Tryd.func23, Tryd.ntmps23
  go_wp2
  go_loopw [4] (fun i wr => ∃ k : Nat, k ≤ n ∧ i = .int .i64 k ∧ Below u.heap.size u wr ∧ ∀ j, j < k → opOk ((n : Int) - 1) j ((valsOf Q).getD j (0, 0, 0, false, [])) = true) (fun i _ => n - (intOf i).toNat)
  case atStart => exact ⟨0, Nat.zero_le _, rfl, Below.refl _ _, fun j hj => absurd hj (Nat.not_lt_zero _)⟩
  case round =>
    obtain ⟨k, hk, rfl, hb, hok⟩ := hrel
    have HB := Lib.hid hb
    have HOK := Lib.hid hok
    clear hok hcl hnn
    by_cases hlt : k < n
    · have hkQ : k < Q.length := by rw [HN.out]; exact hlt
      have hlt' : (k : Int) < n := by omega
      have hbx : wr.cell? ⟨w.heap.size, 0, none⟩ = some (.slice (some ⟨b, off, none⟩) n cap) := by rw [hb.cell (p := ⟨w.heap.size, 0, none⟩) (by show w.heap.size < _; have := HSZ.out; omega)]; exact hc0
      have hcq := ((HCC.out k hkQ).below HU.out hbl).below hb (Nat.lt_of_lt_of_le hbl HU.out.size)
      have hfine := ((HR.out.2 _ (List.getElem_mem hkQ)).below HU.out).below hb
      have hsl := HL.out _ (List.getElem_mem hkQ)
      have HVG := Lib.hid (valsOf_get hkQ)
      have HQ8 := Lib.hid (show (k : Int) = (n : Int) - 1 → (Q[k]).op = 8 from fun e => by
        have e1 : k = n - 1 := by omega
        subst e1
        exact H8.out)
      generalize Q[k] = q at *
      obtain ⟨op, qa, qb, neg, sa, sl, sc, set⟩ := q
      obtain ⟨d0, d1, d2, d3, d4⟩ := hcq
      simp only [] at d0 d1 d2 d3 d4 hsl
      have HF := Lib.hid hfine
      have HVG2 := Lib.hid (show (valsOf Q).getD k (0, 0, 0, false, []) = (op, qa, qb, neg, set) from HVG.out)
      have HQ := Lib.hid (show (k : Int) = (n : Int) - 1 → op = 8 from HQ8.out)
      have HNO := Lib.hid (fun h => nfaOk_no (L := valsOf Q) (n := n) (i := k) (by rw [valsOf_len]; exact HN.out) hlt (by rw [HVG2.out]; exact h))
      have HYES := Lib.hid (fun h => opsNext HOK.out (show opOk ((n : Int) - 1) k ((valsOf Q).getD k (0, 0, 0, false, [])) = true by rw [HVG2.out]; exact h))
      obtain ⟨u5, hu5, s5, b5, ⟨c0, c1, c2, c3, c4⟩, hf5⟩ := laid5 wr (.int .i64 op) (.int .i64 qa) (.int .i64 qb) (.bool neg) (.slice sa sl sc) 76
      have HB5 := Lib.hid (HB.out.trans (b5.mono HB.out.size))
      have HF5 := Lib.hid ((HF.out.1.below b5 : RowI .i64 u5 sa set))
      have HSL := Lib.hid (show set.length = sl from HF.out.2.1)
      have hwu := HB5.out.size
      have HBW := Lib.hid (HU.out.trans (HB5.out.mono HU.out.size))
      clear hfine hkQ hb HF HOK HVG HVG2 HQ8 HB b5 hf5 hwu s5
      by_cases o8 : op = 8
      · subst o8
        by_cases hkl : (k : Int) = (n : Int) - 1
        · have HY := Lib.hid (HYES.out (by rw [opOk_fits]; simpa using hkl))
          have hkl' : ((k : Int) != (n : Int) - 1) = false := by simpa using hkl
          clear hkl
          go_wp2
          exact ⟨⟨k + 1, by omega, by go_num, HB5.out, HY.out⟩, by simp [intOf]; omega⟩
        · have HX := Lib.hid (HNO.out (by rw [opOk_fits]; simpa using hkl))
          have hkl' : ((k : Int) != (n : Int) - 1) = true := by simpa using hkl
          go_wp2
          go_ret
          rw [HX.out]
          exact ⟨rfl, HBW.out⟩
      have HK := Lib.hid (show ¬ (k : Int) = (n : Int) - 1 from fun e => o8 (HQ.out e))
      by_cases o1 : op = 1
      · subst o1
        clear o8
        cases hp : isPt qa
        · have HX := Lib.hid (HNO.out (by rw [opOk_pt HK.out]; exact hp))
          go_wp2_with (go_at_call 34; refine (l01Point_any _ _).mono ?_; rintro e w1 ⟨rfl, rfl⟩; rw [hp])
          go_ret
          rw [HX.out]
          exact ⟨rfl, HBW.out⟩
        · have HY := Lib.hid (HYES.out (by rw [opOk_pt HK.out]; exact hp))
          go_wp2_with (go_at_call 34; refine (l01Point_any _ _).mono ?_; rintro e w1 ⟨rfl, rfl⟩; rw [hp])
          exact ⟨⟨k + 1, by omega, by go_num, HB5.out, HY.out⟩, by simp [intOf]; omega⟩
      by_cases o3 : op = 3
      · subst o3
        clear o8 o1
        have htm : ((sl : Nat) : Int).tmod 2 = ((sl % 2 : Nat) : Int) := by rw [Int.tmod_eq_emod_of_nonneg (by omega)]; omega
        by_cases hodd : sl % 2 = 0
        case neg =>
          have HX := Lib.hid (HNO.out (by rw [opOk_set HK.out]; exact setOk_odd (by rw [HSL.out]; exact hodd)))
          have h1 : ((sl : Nat) : Int).tmod 2 = 1 := by omega
          clear htm
          go_wp2
          go_ret
          rw [HX.out]
          exact ⟨rfl, HBW.out⟩
        have h1 : ((sl : Nat) : Int).tmod 2 = 0 := by omega
        have HE := Lib.hid hodd
        clear htm hodd
        have C4 := Lib.hid (fun W (hb : Below u5.heap.size u5 W) => (by rw [hb.cell (p := ⟨wr.heap.size, 4, none⟩) (cell_lt c0)]; exact c4 : W.cell? ⟨wr.heap.size, 4, none⟩ = some (.slice sa sl sc)))
        go_wp2
        go_loopw [6] (fun i wi => ∃ m : Nat, m ≤ sl ∧ i = .int .i64 m ∧ Below u5.heap.size u5 wi ∧ ∀ j, (hj : j < set.length) → j < m → isPt set[j] = true) (fun i _ => sl - (intOf i).toNat)
        case atStart => exact ⟨0, Nat.zero_le _, rfl, Below.refl _ _, fun j _ hj => absurd hj (Nat.not_lt_zero _)⟩
        case round =>
          obtain ⟨m, hm, rfl, hbi, hpt⟩ := hrel
          have HBI := Lib.hid hbi
          have HPT := Lib.hid hpt
          have g4 := C4.out _ hbi
          have HRI := Lib.hid (HF5.out.below hbi)
          clear hbi hpt c0 c1 c2 c3 c4 d0 d1 d2 d3 d4
          by_cases hml : m < sl
          · have hms : m < set.length := by rw [HSL.out]; exact hml
            rcases HRI.out with h0 | ⟨b2, off2, rfl, hbl2, hc2⟩
            · rw [h0] at hms; exact absurd hms (Nat.not_lt_zero _)
            have hcs := hc2 m hms
            rw [getD_get _ _ hms] at hcs
            have HPM := Lib.hid (fun (h : isPt set[m] = true) => (fun j hj hjm => by
              by_cases e : j = m
              · subst e; exact h
              · exact HPT.out j hj (by omega) : ∀ j, (hj : j < set.length) → j < m + 1 → isPt set[j] = true))
            have HPN := Lib.hid (fun (h : isPt set[m] = false) => setOk_no hms h)
            generalize set[m] = x at *
            clear hc2 hms
            cases hp : isPt x
            · have HX := Lib.hid (HNO.out (by rw [opOk_set HK.out]; exact HPN.out hp))
              go_wp2_with (go_at_call 34; refine (l01Point_any _ _).mono ?_; rintro e w1 ⟨rfl, rfl⟩; rw [hp])
              go_ret
              rw [HX.out]
              exact ⟨rfl, HBW.out.trans (HBI.out.mono HBW.out.size)⟩
            · have HP2 := Lib.hid (HPM.out hp)
              go_wp2_with (go_at_call 34; refine (l01Point_any _ _).mono ?_; rintro e w1 ⟨rfl, rfl⟩; rw [hp])
              exact ⟨⟨m + 1, by omega, by go_num, HBI.out, HP2.out⟩, by simp [intOf]; omega⟩
          · obtain rfl : m = sl := by omega
            have HY := Lib.hid (HYES.out (by rw [opOk_set HK.out]; exact setOk_yes (by rw [HSL.out]; exact HE.out) (fun j hj => HPT.out j hj (by rw [← HSL.out]; exact hj))))
            go_wp2
            exact ⟨⟨k + 1, by omega, by go_num, HB5.out.trans (HBI.out.mono HB5.out.size), HY.out⟩, by simp [intOf]; omega⟩
      by_cases o7 : op = 7
      · subst o7
        clear o8 o1 o3
        cases hp : betw qa 0 ((n : Int) - 1)
        · have HX := Lib.hid (HNO.out (by rw [opOk_jump HK.out]; exact hp))
          go_wp2_with (go_at_call 24; refine (l01Between_any _ _ _ _).mono ?_; rintro e w1 ⟨rfl, rfl⟩; rw [hp])
          go_ret
          rw [HX.out]
          exact ⟨rfl, HBW.out⟩
        · have HY := Lib.hid (HYES.out (by rw [opOk_jump HK.out]; exact hp))
          go_wp2_with (go_at_call 24; refine (l01Between_any _ _ _ _).mono ?_; rintro e w1 ⟨rfl, rfl⟩; rw [hp])
          exact ⟨⟨k + 1, by omega, by go_num, HB5.out, HY.out⟩, by simp [intOf]; omega⟩
      by_cases o6 : op = 6
      · subst o6
        clear o8 o1 o3 o7
        cases hp : betw qa 0 ((n : Int) - 1) && betw qb 0 ((n : Int) - 1)
        · have HX := Lib.hid (HNO.out (by rw [opOk_split HK.out]; exact hp))
          have HP := Lib.hid hp
          clear hp
          by_cases hp1 : betw qa 0 ((n : Int) - 1) = true
          · have hp2 : betw qb 0 ((n : Int) - 1) = false := by have := HP.out; rw [hp1, Bool.true_and] at this; exact this
            go_wp2_with (go_at_call 24; refine (l01Between_any _ _ _ _).mono ?_; rintro e w1 ⟨rfl, rfl⟩; first | rw [hp1] | rw [hp2])
            go_ret
            rw [HX.out]
            exact ⟨rfl, HBW.out⟩
          · have hp1' : betw qa 0 ((n : Int) - 1) = false := by simpa using hp1
            clear hp1
            go_wp2_with (go_at_call 24; refine (l01Between_any _ _ _ _).mono ?_; rintro e w1 ⟨rfl, rfl⟩; first | rw [hp1'] | skip)
            all_goals go_ret
            all_goals rw [HX.out]
            all_goals exact ⟨rfl, HBW.out⟩
        · have HY := Lib.hid (HYES.out (by rw [opOk_split HK.out]; exact hp))
          rw [Bool.and_eq_true] at hp
          obtain ⟨hp1, hp2⟩ := hp
          go_wp2_with (go_at_call 24; refine (l01Between_any _ _ _ _).mono ?_; rintro e w1 ⟨rfl, rfl⟩; first | rw [hp1] | rw [hp2])
          exact ⟨⟨k + 1, by omega, by go_num, HB5.out, HY.out⟩, by simp [intOf]; omega⟩
      have HO := Lib.hid (opOk_any (last := (n : Int) - 1) (i := k) (op := op) (a := qa) (b := qb) (neg := neg) (set := set) HK.out o1 o3 o7 o6 o8)
      by_cases o2 : op = 2
      · subst o2
        have HY := Lib.hid (HYES.out (by rw [HO.out]; rfl))
        clear o8 o1 o3 o7 o6
        go_wp2
        exact ⟨⟨k + 1, by omega, by go_num, HB5.out, HY.out⟩, by simp [intOf]; omega⟩
      by_cases o4 : op = 4
      · subst o4
        have HY := Lib.hid (HYES.out (by rw [HO.out]; rfl))
        clear o8 o1 o3 o7 o6 o2
        go_wp2
        exact ⟨⟨k + 1, by omega, by go_num, HB5.out, HY.out⟩, by simp [intOf]; omega⟩
      by_cases o5 : op = 5
      · subst o5
        have HY := Lib.hid (HYES.out (by rw [HO.out]; rfl))
        clear o8 o1 o3 o7 o6 o2 o4
        go_wp2
        exact ⟨⟨k + 1, by omega, by go_num, HB5.out, HY.out⟩, by simp [intOf]; omega⟩
      have HX := Lib.hid (HNO.out (by rw [HO.out]; simp [betw]; omega))
      go_wp2
      go_ret
      rw [HX.out]
      exact ⟨rfl, HBW.out⟩
    · obtain rfl : k = n := by omega
      have HX := Lib.hid (nfaOk_yes (L := valsOf Q) (n := k) (by rw [valsOf_len]; exact HN.out) (by simp [betw]; omega) HOK.out)
      go_wp2
      go_ret
      rw [HX.out]
      exact ⟨rfl, HU.out.trans (HB.out.mono HU.out.size)⟩
end Go.Proofs.YtobpecgecopdnaaDoor

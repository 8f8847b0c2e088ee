/-
  NfaSound of the program. Conditions: bounds.
-/
import Derived.Test.YtobpecgecopdnaaDoorNfaSound
import Derived.Deep.CutBlock
namespace Go.Proofs.YtobpecgecopdnaaDoor
open Go.RowKit
set_option linter.unusedVariables false
set_option linter.unusedSimpArgs false

def opSw (last : Int) (v : OpV) : Bool := if v.1 = 1 then isPt v.2.1 else if v.1 = 3 then setOk v.2.2.2.2 else if v.1 = 7 then betw v.2.1 0 last else if v.1 = 6 then betw v.2.1 0 last && betw v.2.2.1 0 last else true
theorem opOk_sw (last i : Int) (v : OpV) : opOk last i v = (opSw last v && betw v.1 1 8 && ((v.1 == 8) == (i == last))) := rfl
theorem notPt_any (c : Int) (w : World) :
    Calls Tryd.prog 51 #[.int .i64 c] w fun e w' => e = .returned (.bool (!isPt c)) ∧ w' = w := by
  go_enter Tryd.func51, Tryd.ntmps51
  go_wp2_with fail
  refine (isPoint_any c _).mono ?_
  rintro e w1 ⟨rfl, rfl⟩
  go_wp2
  go_ret
  exact ⟨rfl, rfl⟩
theorem allPt_no {l : List Int} {j : Nat} (hj : j < l.length) (h : isPt l[j] = false) : l.all isPt = false := by
  rw [List.all_eq_false]
  exact ⟨l[j], List.getElem_mem hj, by rw [h]; simp⟩
theorem idxPt_any (a : Option Addr) (c n : Nat) (l : List Int) (w : World) (h : RowI .i64 w a l) (hn : l.length = n) (hl : n ≤ 1048576) :
    Calls Tryd.prog 69 #[.slice a n c, .func (.func 51) #[] #[]] w fun e w' => ∃ v : Int, e = .returned (.int .i64 v) ∧ decide (0 ≤ v) = !l.all isPt ∧ w' = w := by
  have HR := Lib.hid h
  have HN := Lib.hid hn
  clear h hn
  go_enter Tryd.func69, Tryd.ntmps69
  go_wp2
  go_loopw [8] (fun i wr => ∃ k : Nat, k ≤ n ∧ i = .int .i64 k ∧ wr = w ∧ ∀ j, (hj : j < l.length) → j < k → isPt l[j] = true) (fun i _ => n - (intOf i).toNat)
  case atStart => exact ⟨0, Nat.zero_le _, rfl, rfl, fun j _ hj => absurd hj (Nat.not_lt_zero _)⟩
  case round =>
    obtain ⟨k, hk, rfl, rfl, hok⟩ := hrel
    have HOK := Lib.hid hok
    clear hok
    by_cases hlt : k < n
    · have hks : k < l.length := by rw [HN.out]; exact hlt
      rcases HR.out with h0 | ⟨b, off, rfl, hbl, hc⟩
      · rw [h0] at hks; exact absurd hks (Nat.not_lt_zero _)
      have hcs := hc k hks
      rw [getD_get _ k hks] at hcs
      have HNO := Lib.hid (fun h => allPt_no hks h)
      have HPM := Lib.hid (fun (h : isPt l[k] = true) => (fun j hj hjm => by
              by_cases e : j = k
              · subst e; exact h
              · exact HOK.out j hj (by omega) : ∀ j, (hj : j < l.length) → j < k + 1 → isPt l[j] = true))
      generalize l[k] = x at *
      have HF := Lib.hid (notPt_any x wr)
      clear hc hks
      cases hs : isPt x
      · have HE := Lib.hid (HNO.out hs)
        rw [hs] at HF
        clear hs
        go_wp2_with fail
        refine HF.out.mono ?_
        rintro e w2 ⟨rfl, rfl⟩
        go_wp2
        go_ret
        refine ⟨(k : Int), rfl, ?_, rfl⟩
        rw [HE.out]
        simp
      · have HE := Lib.hid (HPM.out hs)
        rw [hs] at HF
        clear hs
        go_wp2_with fail
        refine HF.out.mono ?_
        rintro e w2 ⟨rfl, rfl⟩
        go_wp2
        exact ⟨⟨k + 1, by omega, by go_num, by first | rfl | trivial, HE.out⟩, by simp [intOf]; omega⟩
    · obtain rfl : k = n := by omega
      have HE := Lib.hid (show l.all isPt = true by
        rw [List.all_eq_true]
        intro x hx
        obtain ⟨i, hi, rfl⟩ := List.getElem_of_mem hx
        exact HOK.out i hi (by have := HN.out; omega))
      go_wp2
      go_ret
      refine ⟨-1, rfl, ?_, rfl⟩
      rw [HE.out]
      rfl
theorem hasPt_any (a : Option Addr) (c n : Nat) (l : List Int) (w : World) (h : RowI .i64 w a l) (hn : l.length = n) (hl : n ≤ 1048576) :
    Calls Tryd.prog 50 #[.slice a n c, .func (.func 51) #[] #[]] w fun e w' => e = .returned (.bool (!l.all isPt)) ∧ w' = w := by
  go_enter Tryd.func50, Tryd.ntmps50
  go_wp2_with fail
  refine (idxPt_any a c n l _ h hn hl).mono ?_
  rintro e w1 ⟨v, rfl, hv, rfl⟩
  go_wp2
  go_ret
  rw [← hv]
  exact ⟨rfl, rfl⟩

set_option maxHeartbeats 4000000 in
set_option maxRecDepth 20000 in
theorem isNfa_any (a : Option Addr) (cap n : Nat) (Q : List OpQ) (w : World) (h : OpR w a Q) (hn : Q.length = n) (hl : n ≤ 1048576) (hql : ∀ q ∈ Q, q.sl ≤ 1048576) :
    Calls Tryd.prog 28 #[.agg #[.slice a n cap]] w fun e w' => e = .returned (.bool (nfaOk (valsOf Q))) ∧ Below w.heap.size w w' := by
  have HR := Lib.hid h
  have HL := Lib.hid hql
  have HN := Lib.hid hn
  clear h hql hn
  obtain ⟨u, hu, hsz, hbu, hc0⟩ := nfa_box w (.slice a n cap) 32
  cases hbt : betw ((n : Int) - 1) 0 3999
  · have HX := Lib.hid (show nfaOk (valsOf Q) = false by unfold nfaOk; rw [valsOf_len, HN.out, hbt, Bool.false_and])
    go_enter Tryd.func28, Tryd.ntmps28
    go_wp2_with (go_at_call 29; refine (within_any _ _ _ _).mono ?_; rintro e w2 ⟨rfl, hw⟩; obtain rfl := hw.symm; rw [hbt])
    go_ret
    rw [HX.out]
    exact ⟨rfl, hbu⟩
  have HBT := Lib.hid hbt
  have HU := Lib.hid hbu
  have HSZ := Lib.hid hsz
  have hnl : n ≤ 4000 := by unfold betw at hbt; simp at hbt; omega
  go_enter Tryd.func28, Tryd.ntmps28
  go_wp2_with (go_at_call 29; refine (within_any _ _ _ _).mono ?_; rintro e w2 ⟨rfl, hw⟩; obtain rfl := hw.symm; rw [hbt])
  clear hbt hbu hsz
  go_loopw [17] (fun i wr => ∃ k : Nat, k ≤ n ∧ i = .int .i64 k ∧ Below u.heap.size u wr ∧ ∀ j, j < k → opOk ((n : Int) - 1) j ((valsOf Q).getD j (0, 0, 0, false, [])) = true) (fun i _ => n - (intOf i).toNat)
  case atStart => exact ⟨0, Nat.zero_le _, rfl, Below.refl _ _, fun j hj => absurd hj (Nat.not_lt_zero _)⟩
  case round =>
    obtain ⟨k, hk, rfl, hb, hok⟩ := hrel
    have HB := Lib.hid hb
    have HOK := Lib.hid hok
    clear hok
    by_cases hlt : k < n
    · have hkQ : k < Q.length := by rw [HN.out]; exact hlt
      have hlt' : (k : Int) < n := by omega
      obtain ⟨hr1, hr2⟩ := HR.out
      rcases hr1 with h0 | ⟨b, off, rfl, hbl, hc⟩
      · rw [h0] at hkQ; exact absurd hkQ (Nat.not_lt_zero _)
      have hcq := ((hc k hkQ).below HU.out hbl).below hb (Nat.lt_of_lt_of_le hbl HU.out.size)
      have hfine := ((HR.out.2 _ (List.getElem_mem hkQ)).below HU.out).below hb
      have hsl := HL.out _ (List.getElem_mem hkQ)
      have HVG := Lib.hid (valsOf_get hkQ)
      generalize Q[k] = q at *
      obtain ⟨op, qa, qb, neg, sa, sl, sc, set⟩ := q
      obtain ⟨d0, d1, d2, d3, d4⟩ := hcq
      simp only [] at d0 d1 d2 d3 d4 hsl
      have HVG2 := Lib.hid (show (valsOf Q).getD k (0, 0, 0, false, []) = (op, qa, qb, neg, set) from HVG.out)
      have HNO := Lib.hid (fun h => nfaOk_no (L := valsOf Q) (n := n) (i := k) (by rw [valsOf_len]; exact HN.out) hlt (by rw [HVG2.out]; exact h))
      have HYES := Lib.hid (fun h => opsNext HOK.out (show opOk ((n : Int) - 1) k ((valsOf Q).getD k (0, 0, 0, false, [])) = true by rw [HVG2.out]; exact h))
      obtain ⟨u5, hu5, s5, b5, ⟨c0, c1, c2, c3, c4⟩, hf5⟩ := laid5 wr (.int .i64 op) (.int .i64 qa) (.int .i64 qb) (.bool neg) (.slice sa sl sc) 76
      have HB5 := Lib.hid (HB.out.trans (b5.mono HB.out.size))
      have HF5 := Lib.hid ((hfine.1.below b5 : RowI .i64 u5 sa set))
      have HSL := Lib.hid (show set.length = sl from hfine.2.1)
      have HBW := Lib.hid (HU.out.trans (HB5.out.mono HU.out.size))
      clear hfine hkQ hb HOK HVG HVG2 HB b5 hf5 s5 hr2 hc
      go_upto_block 2 with fail
      go_cut [6] from 24 to 76 (fun s6 wx => s6 = .bool (opSw ((n : Int) - 1) (op, qa, qb, neg, set)) ∧ wx = u5)
      case first =>
        by_cases o1 : op = 1
        · subst o1
          go_wp2_with (go_at_call 49; refine (isPoint_any _ _).mono ?_; rintro e w1 ⟨rfl, hw⟩; obtain rfl := hw.symm)
          go_meet
          exact ⟨rfl, rfl⟩
        by_cases o3 : op = 3
        · subst o3
          clear o1
          have htm : ((sl : Nat) : Int).tmod 2 = ((sl % 2 : Nat) : Int) := by rw [Int.tmod_eq_emod_of_nonneg (by omega)]; omega
          by_cases hodd : sl % 2 = 0
          case neg =>
            have HX := Lib.hid (show opSw ((n : Int) - 1) (3, qa, qb, neg, set) = false from setOk_odd (by rw [HSL.out]; exact hodd))
            have h1 : ((sl : Nat) : Int).tmod 2 = 1 := by omega
            clear htm hodd
            go_wp2
            go_meet
            exact ⟨by rw [HX.out], rfl⟩
          have h1 : ((sl : Nat) : Int).tmod 2 = 0 := by omega
          have HX := Lib.hid (show opSw ((n : Int) - 1) (3, qa, qb, neg, set) = set.all isPt from by
            show setOk set = _
            unfold setOk
            rw [HSL.out, hodd]
            rfl)
          clear htm hodd
          go_wp2_with fail
          refine (hasPt_any sa sc sl set _ HF5.out HSL.out hsl).mono ?_
          rintro e w1 ⟨rfl, hw⟩
          obtain rfl := hw.symm
          go_wp2
          go_meet
          exact ⟨by rw [HX.out], rfl⟩
        by_cases o7 : op = 7
        · subst o7
          clear o1 o3
          go_wp2_with (go_at_call 29; refine (within_any _ _ _ _).mono ?_; rintro e w1 ⟨rfl, hw⟩; obtain rfl := hw.symm)
          go_meet
          exact ⟨rfl, rfl⟩
        by_cases o6 : op = 6
        · subst o6
          clear o1 o3 o7
          go_wp2_with (go_at_call 29; refine (within_any _ _ _ _).mono ?_; rintro e w1 ⟨rfl, hw⟩; obtain rfl := hw.symm)
          all_goals go_meet
          all_goals refine ⟨?_, rfl⟩
          all_goals first | rfl | (simp [opSw, *])
        have HX := Lib.hid (show opSw ((n : Int) - 1) (op, qa, qb, neg, set) = true by simp [opSw, o1, o3, o7, o6])
        go_wp2
        go_meet
        exact ⟨by rw [HX.out], rfl⟩
      case rest =>
        obtain ⟨rfl, rfl⟩ := hcut
        have hsw := opOk_sw ((n : Int) - 1) k (op, qa, qb, neg, set)
        generalize opSw ((n : Int) - 1) (op, qa, qb, neg, set) = B at *
        have HSW := Lib.hid hsw
        clear hsw
        cases hbt : betw op 1 8
        · have HX := Lib.hid (HNO.out (by rw [HSW.out]; simp only []; rw [hbt]; simp))
          cases B
          · go_wp2_with (go_at_call 29; refine (within_any _ _ _ _).mono ?_; rintro e w1 ⟨rfl, hw⟩; obtain rfl := hw.symm; rw [hbt])
            all_goals go_ret
            all_goals rw [HX.out]
            all_goals exact ⟨rfl, HBW.out⟩
          · go_wp2_with (go_at_call 29; refine (within_any _ _ _ _).mono ?_; rintro e w1 ⟨rfl, hw⟩; obtain rfl := hw.symm; rw [hbt])
            all_goals go_ret
            all_goals rw [HX.out]
            all_goals exact ⟨rfl, HBW.out⟩
        · cases B
          · have HX := Lib.hid (HNO.out (by rw [HSW.out]; rfl))
            go_wp2_with (go_at_call 29; refine (within_any _ _ _ _).mono ?_; rintro e w1 ⟨rfl, hw⟩; obtain rfl := hw.symm; rw [hbt])
            all_goals go_ret
            all_goals rw [HX.out]
            all_goals exact ⟨rfl, HBW.out⟩
          · have HSW2 := Lib.hid (show opOk ((n : Int) - 1) k (op, qa, qb, neg, set) = ((op == 8) == ((k : Int) == (n : Int) - 1)) by rw [HSW.out]; simp only []; rw [hbt]; simp)
            go_wp2_with (go_at_call 29; refine (within_any _ _ _ _).mono ?_; rintro e w1 ⟨rfl, hw⟩; obtain rfl := hw.symm; rw [hbt])
            · rename_i hx
              have HX := Lib.hid (HNO.out (by rw [HSW2.out]; revert hx; cases (op == 8) <;> cases ((k : Int) == (n : Int) - 1) <;> simp))
              go_ret
              rw [HX.out]
              exact ⟨rfl, HBW.out⟩
            · rename_i hx
              have HY := Lib.hid (HYES.out (by rw [HSW2.out]; revert hx; cases (op == 8) <;> cases ((k : Int) == (n : Int) - 1) <;> simp))
              exact ⟨⟨k + 1, by omega, by go_num, HB5.out, HY.out⟩, by simp [intOf]; omega⟩
    · obtain rfl : k = n := by omega
      have HX := Lib.hid (nfaOk_yes (L := valsOf Q) (n := k) (by rw [valsOf_len]; exact HN.out) HBT.out HOK.out)
      go_wp2
      go_ret
      rw [HX.out]
      exact ⟨rfl, HU.out.trans (HB.out.mono HU.out.size)⟩
end Go.Proofs.YtobpecgecopdnaaDoor

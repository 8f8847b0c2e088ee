/-
  The program's setText. Conditions: bounds.
-/
import Derived.Test.YtpolpihgclemnaaDoorRxTxt
import Derived.Test.YtpolpihgclemnaaDoorRxL
import Derived.Test.YtpolpihgclemnaaDoorBetw
import Derived.Deep.QuietTactic
namespace Go.Proofs.YtpolpihgclemnaaDoor
open Go.RowKit
open Go.Lib hiding intOf
set_option linter.unusedVariables false
set_option linter.unusedSimpArgs false

/-- a set's text -/
def setT (neg : Bool) (l : List Int) : Option (List UInt8) :=
  if l.length % 2 = 0 ∧ l.length ≤ 2000 ∧ l.all isPt = true then some ((if neg = true then [91, 94] else [91]) ++ prsB l ++ [93]) else none
/-- a text, or none, as two results -/
def opS (o : Option (List UInt8)) : ByteArray := ofL (o.getD [])
def opB (o : Option (List UInt8)) : Bool := o.isSome
theorem prsB_len : ∀ l : List Int, (prsB l).length ≤ 6 * l.length
  | [] => by simp [prsB]
  | [x] => by simp [prsB]
  | x :: y :: r => by
    have h := prsB_len r
    have h1 := chB_len x (bs sgnB)
    have h2 := chB_len y (bs sgnB)
    rw [prsB]
    simp only [List.length_append, List.length_cons]
    split
    · simp only [List.length_nil]; omega
    · simp only [List.length_cons]; omega
theorem prsB_append : ∀ (a b : List Int), a.length % 2 = 0 → prsB (a ++ b) = prsB a ++ prsB b
  | [], b, _ => rfl
  | [x], b, h => by simp at h
  | x :: y :: r, b, h => by
    have := prsB_append r b (by simp only [List.length_cons] at h; omega)
    simp only [List.cons_append, prsB, this, List.append_assoc]
theorem prsB_next {l : List Int} {k : Nat} (hk : k + 1 < l.length) (he : k % 2 = 0) : prsB (l.take (k + 2)) = prsB (l.take k) ++ (chB l[k] (bs sgnB) ++ (if l[k] = l[k + 1] then [] else 45 :: chB l[k + 1] (bs sgnB))) := by
  have e : l.take (k + 2) = l.take k ++ [l[k], l[k + 1]] := by
    rw [List.take_succ_eq_append_getElem (show k + 1 < l.length from hk), List.take_succ_eq_append_getElem (show k < l.length by omega), List.append_assoc]
    rfl
  rw [e, prsB_append _ _ (by rw [List.length_take]; omega)]
  congr 1
  simp [prsB]
theorem setT_no {neg : Bool} {l : List Int} (h : ¬ (l.length % 2 = 0 ∧ l.length ≤ 2000 ∧ l.all isPt = true)) : setT neg l = none := by unfold setT; rw [if_neg h]
theorem setT_yes {neg : Bool} {l : List Int} (h : l.length % 2 = 0 ∧ l.length ≤ 2000 ∧ l.all isPt = true) : setT neg l = some ((if neg = true then [91, 94] else [91]) ++ prsB l ++ [93]) := by unfold setT; rw [if_pos h]

theorem notPtS_any (c : Int) (w : World) :
    Calls Tryd.prog 39 #[.int .i64 c] w fun e w' => e = .returned (.bool (!isPt c)) ∧ w' = w := by
  go_enter Tryd.func39, Tryd.ntmps39
  go_wp2_with fail
  refine (isPoint_any c _).mono ?_
  rintro e w1 ⟨rfl, rfl⟩
  go_wp2
  go_ret
  exact ⟨rfl, rfl⟩
theorem allPtS_no {l : List Int} {j : Nat} (hj : j < l.length) (h : isPt l[j] = false) : l.all isPt = false := by
  rw [List.all_eq_false]
  exact ⟨l[j], List.getElem_mem hj, by rw [h]; simp⟩
theorem idxPtS_any (a : Option Addr) (c n : Nat) (l : List Int) (w : World) (h : RowI .i64 w a l) (hn : l.length = n) (hl : n ≤ 1048576) :
    Calls Tryd.prog 46 #[.slice a n c, .func (.func 39) #[] #[]] w fun e w' => ∃ v : Int, e = .returned (.int .i64 v) ∧ decide (0 ≤ v) = !l.all isPt ∧ w' = w := by
  have HR := Lib.hid h
  have HN := Lib.hid hn
  clear h hn
  go_enter Tryd.func46, Tryd.ntmps46
  go_wp2
  go_loopw [8] (fun i wr => ∃ k : Nat, k ≤ n ∧ i = .int .i64 k ∧ wr = w ∧ ∀ j, (hj : j < l.length) → j < k → isPt l[j] = true) (fun i _ => n - (intOf i).toNat)
  case atStart => exact ⟨0, Nat.zero_le _, rfl, rfl, fun j _ hj => absurd hj (Nat.not_lt_zero _)⟩
  case round =>
    obtain ⟨k, hk, rfl, rfl, hok⟩ := hrel
    have HOK := Lib.hid hok
    clear hok
    by_cases hlt : k < n
    · have hks : k < l.length := by rw [HN.out]; exact hlt
      rcases HR.out with h0 | ⟨b, off, rfl, hbl, hc⟩
      · rw [h0] at hks; exact absurd hks (Nat.not_lt_zero _)
      have hcs := hc k hks
      rw [getD_get _ k hks] at hcs
      have HNO := Lib.hid (fun h => allPtS_no hks h)
      have HPM := Lib.hid (fun (h : isPt l[k] = true) => (fun j hj hjm => by
              by_cases e : j = k
              · subst e; exact h
              · exact HOK.out j hj (by omega) : ∀ j, (hj : j < l.length) → j < k + 1 → isPt l[j] = true))
      generalize l[k] = x at *
      have HF := Lib.hid (notPtS_any x wr)
      clear hc hks
      cases hs : isPt x
      · have HE := Lib.hid (HNO.out hs)
        rw [hs] at HF
        clear hs
        go_wp2_with fail
        refine HF.out.mono ?_
        rintro e w2 ⟨rfl, rfl⟩
        go_wp2
        go_ret
        refine ⟨(k : Int), rfl, ?_, rfl⟩
        rw [HE.out]
        simp
      · have HE := Lib.hid (HPM.out hs)
        rw [hs] at HF
        clear hs
        go_wp2_with fail
        refine HF.out.mono ?_
        rintro e w2 ⟨rfl, rfl⟩
        go_wp2
        exact ⟨⟨k + 1, by omega, by go_num, by first | rfl | trivial, HE.out⟩, by simp [intOf]; omega⟩
    · obtain rfl : k = n := by omega
      have HE := Lib.hid (show l.all isPt = true by
        rw [List.all_eq_true]
        intro x hx
        obtain ⟨i, hi, rfl⟩ := List.getElem_of_mem hx
        exact HOK.out i hi (by have := HN.out; omega))
      go_wp2
      go_ret
      refine ⟨-1, rfl, ?_, rfl⟩
      rw [HE.out]
      rfl
theorem hasPtS_any (a : Option Addr) (c n : Nat) (l : List Int) (w : World) (h : RowI .i64 w a l) (hn : l.length = n) (hl : n ≤ 1048576) :
    Calls Tryd.prog 38 #[.slice a n c, .func (.func 39) #[] #[]] w fun e w' => e = .returned (.bool (!l.all isPt)) ∧ w' = w := by
  go_enter Tryd.func38, Tryd.ntmps38
  go_wp2_with fail
  refine (idxPtS_any a c n l _ h hn hl).mono ?_
  rintro e w1 ⟨v, rfl, hv, rfl⟩
  go_wp2
  go_ret
  rw [← hv]
  exact ⟨rfl, rfl⟩

set_option maxRecDepth 20000 in
set_option maxHeartbeats 2000000 in
theorem setText_any (q : NdQ) (w : World) (h : NdFine w q) (hl : q.sl ≤ 1048576) :
    Calls Tryd.prog 31 #[q.agg] w fun e w' => e = .returned (.tuple #[.string (opS (setT q.neg q.set)), .bool (opB (setT q.neg q.set))]) ∧ Below w.heap.size w w' := by
  obtain ⟨op, qa, qb, neg, sa, sl, sc, set, ka, kl, kc, kids⟩ := q
  obtain ⟨⟨hrow, _⟩, ⟨hsl, _⟩, _⟩ := h
  simp only [] at hrow hsl hl
  obtain ⟨u, hu, su, bu, ⟨c0, c1, c2, c3, c4, c5⟩, _⟩ := laid6 w (.int .i64 op) (.int .i64 qa) (.int .i64 qb) (.bool neg) (.slice sa sl sc) (.slice ka kl kc) 38
  have HBU := Lib.hid bu
  have HROW := Lib.hid (hrow.below bu)
  have HSL := Lib.hid hsl
  have HPT := Lib.hid (fun W (hb : Below u.heap.size u W) => hasPtS_any sa sc sl set W ((hrow.below bu).below hb) hsl hl)
  have HCH := Lib.hid (fun (c : Int) W => (show Calls Tryd.prog 29 #[.int .i64 c, .string ⟨#[92, 93, 91, 94, 45]⟩] W (fun e w' => e = .returned (.string (chI c sgnB)) ∧ Below W.heap.size W w') from charText_any c sgnB W sgnB_asc (by decide) (by decide)))
  obtain ⟨o, ho⟩ : ∃ o, setT neg set = o := ⟨_, rfl⟩
  have HOE := Lib.hid ho
  show Calls Tryd.prog 31 #[.agg #[.int .i64 op, .int .i64 qa, .int .i64 qb, .bool neg, .slice sa sl sc, .slice ka kl kc]] w fun e w' => e = .returned (.tuple #[.string (opS (setT neg set)), .bool (opB (setT neg set))]) ∧ Below w.heap.size w w'
  rw [ho]
  have HNONE := Lib.hid (fun (h : ¬ (sl % 2 = 0 ∧ sl ≤ 2000 ∧ set.all isPt = true)) => (show opS o = ⟨#[]⟩ ∧ opB o = false from by
    have := setT_no (neg := neg) (l := set) (by rw [hsl]; exact h)
    rw [ho] at this
    subst this
    exact ⟨rfl, rfl⟩))
  have hlt : w.heap.size < u.heap.size := by omega
  clear hrow bu hsl ho
  obtain ⟨pre, hpre⟩ : ∃ pre : List UInt8, (if neg = true then [91, 94] else [91]) = pre := ⟨_, rfl⟩
  have HPRE := Lib.hid hpre
  have hpl : pre.length ≤ 2 := by rw [← hpre]; split <;> simp
  clear hpre
  by_cases hodd : sl % 2 = 1
  · have hm : Int.tmod (sl : Int) 2 = 1 := by rw [Int.tmod_eq_emod_of_nonneg (by omega)]; omega
    obtain ⟨e1, e2⟩ := HNONE.out (by omega)
    have E1 := Lib.hid e1
    have E2 := Lib.hid e2
    clear e1 e2 hodd
    cases neg
    all_goals
      go_enter Tryd.func31, Tryd.ntmps31
      go_wp2
      go_ret2
      rw [E1.out, E2.out]
      exact ⟨rfl, HBU.out⟩
  have hm : Int.tmod (sl : Int) 2 = 0 := by rw [Int.tmod_eq_emod_of_nonneg (by omega)]; omega
  have heven : sl % 2 = 0 := by omega
  clear hodd
  by_cases hbig : 2000 < sl
  · have hbigI : (2000 : Int) < (sl : Int) := by omega
    obtain ⟨e1, e2⟩ := HNONE.out (by omega)
    have E1 := Lib.hid e1
    have E2 := Lib.hid e2
    have HEV := Lib.hid heven
    clear e1 e2 heven
    cases neg
    all_goals
      go_enter Tryd.func31, Tryd.ntmps31
      go_wp2
      go_ret2
      rw [E1.out, E2.out]
      exact ⟨rfl, HBU.out⟩
  have hbigI : ¬ (2000 : Int) < (sl : Int) := by omega
  have HPT1 := Lib.hid (HPT.out u (Below.refl _ _))
  cases hall : set.all isPt
  · rw [hall] at HPT1
    obtain ⟨e1, e2⟩ := HNONE.out (fun h => by rw [hall] at h; cases h.2.2)
    have E1 := Lib.hid e1
    have E2 := Lib.hid e2
    have HEV := Lib.hid heven
    clear e1 e2 heven hall
    cases neg
    all_goals
      go_enter Tryd.func31, Tryd.ntmps31
      go_wp2_with fail
      refine HPT1.out.mono ?_
      rintro e w1 ⟨rfl, hw1⟩
      obtain rfl : u = w1 := hw1.symm
      go_wp2
      go_ret2
      rw [E1.out, E2.out]
      exact ⟨rfl, HBU.out⟩
  rw [hall] at HPT1
  have HO := Lib.hid (show o = some (pre ++ prsB set ++ [93]) from by rw [← HOE.out, ← HPRE.out]; exact setT_yes ⟨by rw [HSL.out]; exact heven, by rw [HSL.out]; omega, hall⟩)
  have HALL := Lib.hid hall
  have HEV := Lib.hid heven
  clear heven hall HNONE
  have hst : (ofL pre).size ≤ 2 := by rw [size_ofL]; exact hpl
  have hp0 : (if neg = true then (⟨#[91, 94]⟩ : ByteArray) else ⟨#[91]⟩) = ofL pre := by rw [← HPRE.out]; cases neg <;> rfl
  have HP0 := Lib.hid hp0
  clear hp0
  have HTXT := Lib.hid (fun (t : ByteArray) (h : t = ofL (pre ++ prsB (set.take sl))) => (show t ++ ⟨#[93]⟩ = opS o ∧ true = opB o from by
    rw [HO.out, h, List.take_of_length_le (by rw [HSL.out]; exact Nat.le_refl _)]
    exact ⟨bs_inj (by simp [bs, ofL, opS]), rfl⟩))
  have HSZ := Lib.hid (fun (k : Nat) (t : ByteArray) (h : t = ofL (pre ++ prsB (set.take k))) (hk : k ≤ sl) => (show t.size ≤ 20000 from by
    have := prsB_len (set.take k)
    rw [h, size_ofL, List.length_append]
    rw [List.length_take] at this
    omega))
  have HNX := Lib.hid (fun (k : Nat) (t : ByteArray) (h : t = ofL (pre ++ prsB (set.take k))) (hk : k + 1 < set.length) (he : k % 2 = 0) => (show
      (set[k] = set[k + 1] → t ++ ofL (chB set[k] (bs sgnB)) = ofL (pre ++ prsB (set.take (k + 2)))) ∧ (set[k] ≠ set[k + 1] → t ++ ofL (chB set[k] (bs sgnB)) ++ (⟨#[45]⟩ ++ ofL (chB set[k + 1] (bs sgnB))) = ofL (pre ++ prsB (set.take (k + 2)))) from by
    rw [prsB_next hk he, h]
    refine ⟨fun e => ?_, fun e => ?_⟩
    · rw [if_pos e]; exact bs_inj (by simp [bs, ofL])
    · rw [if_neg e]; exact bs_inj (by simp [bs, ofL])))
  have HCX := Lib.hid (fun (k : Nat) (hk : k < set.length) W => (show Calls Tryd.prog 29 #[.int .i64 set[k], .string ⟨#[92, 93, 91, 94, 45]⟩] W (fun e w' => e = .returned (.string (ofL (chB set[k] (bs sgnB)))) ∧ Below W.heap.size W w') from by
    have h := HCH.out set[k] W
    rw [chI_pt (List.all_eq_true.1 HALL.out _ (List.getElem_mem hk)) sgnB_asc] at h
    exact h))
  clear hst hpl
  cases neg
  rotate_left
  all_goals
    go_enter Tryd.func31, Tryd.ntmps31
    go_wp2_with fail
    refine HPT1.out.mono ?_
    rintro e w1 ⟨rfl, hw1⟩
    obtain rfl : u = w1 := hw1.symm
    go_wp2_with fail
    go_loopw [4, 5] (fun s i wr => ∃ (k : Nat) (t : ByteArray), k ≤ sl ∧ k % 2 = 0 ∧ s = .string t ∧ i = .int .i64 k ∧ t = ofL (pre ++ prsB (set.take k)) ∧ Below u.heap.size u wr) (fun _ i _ => sl - (intOf i).toNat)
    case atStart =>
      refine ⟨0, _, Nat.zero_le _, rfl, rfl, rfl, ?_, Below.refl _ _⟩
      rw [List.take_zero, show prsB [] = [] from rfl, List.append_nil]
      exact HP0.out
    case round =>
      obtain ⟨k, t, hk, hev, rfl, rfl, ht, hb⟩ := hrel
      have HT := Lib.hid ht
      have HB := Lib.hid hb
      have HE := Lib.hid hev
      have hts := HSZ.out k t ht hk
      have hc4 : wr.cell? ⟨w.heap.size, 4, none⟩ = some (.slice sa sl sc) := by rw [hb.cell (p := ⟨w.heap.size, 4, none⟩) (by show w.heap.size < _; exact hlt)]; exact c4
      by_cases hkl : k < sl
      · have hk1 : k + 1 < sl := by have := HEV.out; omega
        have hks : k < set.length := by rw [HSL.out]; exact hkl
        have hks1 : k + 1 < set.length := by rw [HSL.out]; exact hk1
        have HN := Lib.hid (HNX.out k t ht hks1 hev)
        have HC0 := Lib.hid (HCX.out k hks)
        have HC1 := Lib.hid (HCX.out (k + 1) hks1)
        have hl0 := chB_len set[k] (bs sgnB)
        have hl1 := chB_len set[k + 1] (bs sgnB)
        rw [← size_ofL] at hl0 hl1
        have hR := HROW.out.below hb
        rcases hR with h0 | ⟨b2, off2, rfl, hbl2, hc2⟩
        · rw [h0] at hks; exact absurd hks (Nat.not_lt_zero _)
        have hx0 : wr.cell? ⟨b2, off2 + k, none⟩ = some (.int .i64 set[k]) := by rw [hc2 k hks]; simp [List.getElem?_eq_getElem hks]
        have hx1 : wr.cell? ⟨b2, off2 + (k + 1), none⟩ = some (.int .i64 set[k + 1]) := by rw [hc2 (k + 1) hks1]; simp [List.getElem?_eq_getElem hks1]
        generalize set[k] = x0 at *
        generalize set[k + 1] = x1 at *
        generalize ofL (chB x0 (bs sgnB)) = t0 at *
        generalize ofL (chB x1 (bs sgnB)) = t1 at *
        clear hev ht hc2 hks hks1
        go_wp2_with fail
        refine (HC0.out _).mono ?_
        rintro e w1 ⟨rfl, hb1⟩
        have HB1 := Lib.hid (HB.out.trans (hb1.mono HB.out.size))
        have d4 : w1.cell? ⟨w.heap.size, 4, none⟩ = some (.slice (some ⟨b2, off2, none⟩) sl sc) := by rw [HB1.out.cell (p := ⟨w.heap.size, 4, none⟩) (by show w.heap.size < _; exact hlt)]; exact c4
        have y0 : w1.cell? ⟨b2, off2 + k, none⟩ = some (.int .i64 x0) := by rw [hb1.cell (p := ⟨b2, off2 + k, none⟩) (by show b2 < _; exact hbl2)]; exact hx0
        have y1 : w1.cell? ⟨b2, off2 + (k + 1), none⟩ = some (.int .i64 x1) := by rw [hb1.cell (p := ⟨b2, off2 + (k + 1), none⟩) (by show b2 < _; exact hbl2)]; exact hx1
        clear hb1
        have z1 : IntKind.i64.wrap ((k : Int) + 1) = (k : Int) + 1 := IntWalk.i64_in _ (by omega)
        have z5 : IntKind.i64.wrap ((k : Int) + 2) = (k : Int) + 2 := IntWalk.i64_in _ (by omega)
        have z2 : ((k : Int) + 1).toNat = k + 1 := by omega
        have z3 : (0 : Int) ≤ (k : Int) + 1 := by omega
        have z4 : (k : Int) + 1 < (sl : Int) := by omega
        go_wp2_with fail
        go_quiet (fail)
        by_cases hxx : x0 = x1
        · have HG := Lib.hid (HN.out.1 hxx)
          have hxb : (x0 != x1) = false := by rw [hxx]; simp
          clear hx0 hx1
          have HV := HEV.out
          have HE1 := HE.out
          go_wp2_with fail
          refine ⟨⟨k + 2, _, by omega, by omega, rfl, rfl, HG.out, Go.below_drewN HB1.out _⟩, ?_⟩
          simp only [intOf]; omega
        · have HG := Lib.hid (HN.out.2 hxx)
          have hxb : (x0 != x1) = true := by simp [hxx]
          clear hx0 hx1
          go_wp2_with fail
          refine (HC1.out _).mono ?_
          rintro e w2 ⟨rfl, hb2⟩
          have HB2 := Lib.hid ((Go.below_drewN HB1.out _).trans (hb2.mono (Go.below_drewN HB1.out _).size))
          clear hb2
          have HV := HEV.out
          have HE1 := HE.out
          go_wp2_with fail
          refine ⟨⟨k + 2, _, by omega, by omega, rfl, rfl, HG.out, HB2.out⟩, ?_⟩
          simp only [intOf]; omega
      · have HR := Lib.hid (HTXT.out t (by rw [ht, show k = sl by omega]))
        obtain rfl : k = sl := by omega
        clear ht hev
        go_wp2
        go_ret2
        rw [← HR.out.1, ← HR.out.2]
        exact ⟨rfl, HBU.out.trans (HB.out.mono HBU.out.size)⟩
end Go.Proofs.YtpolpihgclemnaaDoor

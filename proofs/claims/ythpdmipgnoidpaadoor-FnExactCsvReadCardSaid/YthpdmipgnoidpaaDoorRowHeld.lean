/-
  The laws' helpers markRowS, heldRowS and eqRowS on rows of strings that a call owns. Condition: bounds.
-/
import Derived.Test.YthpdmipgnoidpaaDoorRowMarks
import Derived.Test.YthpdmipgnoidpaaDoorCurRows
namespace Go.Proofs.YthpdmipgnoidpaaDoor
open Go.RowKit
set_option linter.unusedVariables false
set_option linter.unusedSimpArgs false

set_option maxHeartbeats 1000000 in
theorem markStringS_most (B g cap n k : Nat) (xs : List Value) (w : World) (h : w.ownsRow B 9 1 (.slice (some ⟨g, 0, none⟩) n cap) n xs) (hn : n ≤ 549755813888) (hk1 : 1 ≤ k) (hk : k ≤ 549755813888) :
    Calls Tryd.prog 37 #[.slice (some ⟨g, 0, none⟩) n cap, .int .i64 (k : Int)] w fun e w' => e = .returned (.int .i64 ((k + n : Nat) : Int)) ∧ w'.ownsRow B 9 1 (.slice (some ⟨g, 0, none⟩) n cap) n (markSL n k) ∧ Mostly g w w' := by
  have HO := Lib.hid h
  clear h
  go_enter Tryd.func37, Tryd.ntmps37
  go_wp2
  go_loopw [1, 5] (fun kk i wr => ∃ (j : Nat) (ys : List Value), j ≤ n ∧ kk = .int .i64 ((k + j : Nat) : Int) ∧ i = .int .i64 (j : Int) ∧ wr.ownsRow B 9 1 (.slice (some ⟨g, 0, none⟩) n cap) n ys ∧ Mostly g w wr ∧ ys.take j = (markSL n k).take j) (fun _ i _ => n - (intOf i).toNat)
  case atStart => exact ⟨0, xs, Nat.zero_le _, by simp, rfl, HO.out, .refl _ _, by simp⟩
  case round =>
    obtain ⟨j, ys, hj, rfl, rfl, hown, hb, ht⟩ := hrel
    have HOW := Lib.hid hown
    have HB := Lib.hid hb
    have HT := Lib.hid ht
    clear hown hb ht
    by_cases hlt : j < n
    · go_wp2_with fail
      refine (markText_any (k + j) (by omega) (by omega) _).mono ?_
      rintro e w2 ⟨rfl, hb2⟩
      have HOW2 := Lib.hid (ownsRow_below HOW.out hb2)
      have HB2 := Lib.hid (HB.out.call hb2)
      clear hb2
      have hg2 := (HOW2.out.lt g rfl).2
      have hc := HOW2.out.cellAt j (by omega)
      have hf := HOW2.out.frozenAt j
      have hyl : ys.length = n := by simpa using HOW2.out.1
      rw [List.getElem?_eq_getElem (by omega)] at hc
      go_wp2
      go_light
      refine ⟨⟨j + 1, ys.set j (.string (mkT (k + j))), by omega, by go_num, by go_num, (HOW2.out.stored j _).1, HB2.out.setCell _ _, ?_⟩, by simp [intOf]; omega⟩
      rw [List.take_add_one, List.take_add_one, List.take_set_of_le (Nat.le_refl _), HT.out, markSL_get hlt, List.getElem?_set_self (by omega)]
    · obtain rfl : j = n := by omega
      go_wp2
      go_ret
      have hyl : ys.length = j := by simpa using HOW.out.1
      have e : ys = markSL j k := by
        have := HT.out
        rwa [List.take_of_length_le (by omega), List.take_of_length_le (by rw [markSL_length]; exact Nat.le_refl _)] at this
      exact ⟨rfl, e ▸ HOW.out, HB.out⟩

/-- one row turns -/
theorem RowsOf.turn {w w' : World} {B T j g : Nat} {v : Value} {Q : List RowQ} {f : Nat → List Value} {xs : List Value} (h : RowsOf w B v Q T f) (hj : j < Q.length) (hg : (Q[j]).v.ownBlock = some g) (hm : Mostly g w w') (ho : w'.ownsRow B 9 1 (Q[j]).v (Q[j]).l xs) :
    RowsOf w' B v Q T (fun i => if i = j then xs else f i) := by
  refine ⟨hm.ownsRow h.outer (fun e => ?_), fun i hi => ⟨(h.each i hi).1, ?_, (h.each i hi).2.2⟩, h.dist⟩
  · rcases own_types h.outer (h.each j hj).2.1 rowTypes.symm with h1 | h1
    · rw [h1] at e; cases e
    · exact h1 (e.trans hg.symm)
  · by_cases e : i = j
    · subst e
      simp only [if_true]
      exact ho
    · simp only [if_neg e]
      exact hm.ownsRow (h.each i hi).2.1 (fun e2 => h.dist i j hi hj e (e2.trans hg.symm))
/-- the first j rows hold marks, counted from 1 on -/
def mkF (Q : List RowQ) (j : Nat) : Nat → List Value := fun i => if i < j then markSL (Q.getD i default).l (1 + offs Q i) else ((Q.getD i default).ss).map Value.string
theorem mkF_step (Q : List RowQ) (j : Nat) : (fun i => if i = j then markSL (Q.getD j default).l (1 + offs Q j) else mkF Q j i) = mkF Q (j + 1) := by
  funext i
  unfold mkF
  by_cases e : i = j
  · subst e; simp
  · simp only [if_neg e]
    by_cases h : i < j
    · rw [if_pos h, if_pos (by omega)]
    · rw [if_neg h, if_neg (by omega)]
theorem RowsOf.rowAt {w : World} {B T j n cap : Nat} {a : Option Addr} {Q : List RowQ} {f : Nat → List Value} (h : RowsOf w B (.slice a n cap) Q T f) (hn : Q.length = n) (hj : j < n) :
    ∃ g0 g, a = some ⟨g0, 0, none⟩ ∧ (Q.getD j default).a = some ⟨g, 0, none⟩ ∧ w.cell? ⟨g0, j, none⟩ = some (.slice (some ⟨g, 0, none⟩) (Q.getD j default).l (Q.getD j default).c) ∧ w.ownsRow B 9 1 (.slice (some ⟨g, 0, none⟩) (Q.getD j default).l (Q.getD j default).c) (Q.getD j default).l (f j) ∧ 0 < (Q.getD j default).l := by
  have hjQ : j < Q.length := by omega
  obtain ⟨h1, h2, _⟩ := h.each j hjQ
  rw [getD_ss Q hjQ]
  have ho := h.outer
  rw [hn] at ho
  obtain ⟨g0, c0, hv0, _⟩ := ownsRow_some ho (by omega)
  simp only [Value.slice.injEq, true_and] at hv0
  obtain ⟨g, c, hv, _⟩ := ownsRow_some h2 h1
  have hv' : Value.slice (Q[j]).a (Q[j]).l (Q[j]).c = .slice (some ⟨g, 0, none⟩) (Q[j]).l c := hv
  simp only [Value.slice.injEq, true_and] at hv'
  refine ⟨g0, g, hv0.1, hv'.1, ?_, ?_, h1⟩
  · rw [hv0.1] at ho
    rw [ho.cellAt j (by omega), List.getElem?_map, List.getElem?_eq_getElem hjQ, ← hv'.1]
    rfl
  · rw [← hv'.1]; exact h2

set_option maxHeartbeats 1000000 in
theorem markRowS_any (B T : Nat) (a : Option Addr) (cap n : Nat) (Q : List RowQ) (w : World) (h : RowsIn w B (.slice a n cap) Q T) (hn : Q.length = n) (hn2 : n ≤ 100000) (hq : ∀ q ∈ Q, q.l ≤ 100000) (hB : B ≤ w.heap.size) :
    Calls Tryd.prog 12 #[.slice a n cap, .int .i64 1] w fun e w' => e = .returned (.int .i64 ((1 + offs Q n : Nat) : Int)) ∧ RowsOf w' B (.slice a n cap) Q T (mkF Q n) ∧ Below B w w' := by
  have HO := Lib.hid (RowsOf.congr h (f' := mkF Q 0) (fun i hi => by unfold mkF; rw [if_neg (Nat.not_lt_zero _)]))
  have HOF := Lib.hid (fun j (hj : j ≤ n) => offs_le Q 100000 hq j (by omega))
  have HN := Lib.hid hn
  have HQ := Lib.hid hq
  clear h hn hq
  go_enter Tryd.func12, Tryd.ntmps12
  go_wp2
  go_loopw [1, 5] (fun kk i wr => ∃ (j : Nat), j ≤ n ∧ kk = .int .i64 ((1 + offs Q j : Nat) : Int) ∧ i = .int .i64 (j : Int) ∧ RowsOf wr B (.slice a n cap) Q T (mkF Q j) ∧ Below B w wr) (fun _ i _ => n - (intOf i).toNat)
  case atStart => exact ⟨0, Nat.zero_le _, rfl, rfl, HO.out, Below.refl _ _⟩
  case round =>
    obtain ⟨j, hj, rfl, rfl, hown, hb⟩ := hrel
    have HOW := Lib.hid hown
    have HB := Lib.hid hb
    clear hown hb
    have hof := HOF.out j hj
    by_cases hlt : j < n
    · have hjQ : j < Q.length := by rw [HN.out]; exact hlt
      obtain ⟨g0, g, rfl, hga, hc, hown, hpos⟩ := HOW.out.rowAt HN.out hlt
      have hll : (Q.getD j default).l ≤ 100000 := by rw [getD_ss Q hjQ]; exact HQ.out _ (List.getElem_mem hjQ)
      have hofs : offs Q (j + 1) = offs Q j + (Q.getD j default).l := rfl
      have HV := Lib.hid (show (Q[j]).v = .slice (some ⟨g, 0, none⟩) (Q.getD j default).l (Q.getD j default).c by rw [← hga, getD_ss Q hjQ]; rfl)
      have HL := Lib.hid (show (Q[j]).l = (Q.getD j default).l by rw [getD_ss Q hjQ])
      have HST := Lib.hid (mkF_step Q j)
      have HOFS := Lib.hid hofs
      have hbg := (hown.lt g rfl).1
      obtain ⟨o, ho⟩ : ∃ o, offs Q j = o := ⟨_, rfl⟩
      rw [ho] at HST HOFS hof
      generalize (Q.getD j default).l = l at *
      generalize (Q.getD j default).c = c at *
      have HOWN := Lib.hid hown
      clear hofs hown hga
      rw [ho]
      go_wp2_with fail
      refine (markStringS_most B g c l (1 + o) _ _ HOWN.out (by omega) (by omega) (by omega)).mono ?_
      rintro e w2 ⟨rfl, ho2, hm2⟩
      have HR2 := Lib.hid (RowsOf.turn HOW.out hjQ (by rw [HV.out]; rfl) hm2 (by rw [HV.out, HL.out]; exact ho2))
      rw [HST.out] at HR2
      have HB2 := Lib.hid (HB.out.trans (hm2.below hbg (Nat.le_trans hB HB.out.size)))
      clear ho2 hm2
      go_wp2
      refine ⟨⟨j + 1, by omega, by rw [HOFS.out]; go_num, by go_num, HR2.out, HB2.out⟩, by simp [intOf]; omega⟩
    · obtain rfl : j = n := by omega
      go_wp2
      go_ret
      exact ⟨rfl, HOW.out, HB.out⟩

set_option maxHeartbeats 1000000 in
theorem heldRowS_any (B T : Nat) (a : Option Addr) (cap n : Nat) (Q : List RowQ) (w : World) (h : RowsOf w B (.slice a n cap) Q T (mkF Q n)) (hn : Q.length = n) (hn2 : n ≤ 100000) (hq : ∀ q ∈ Q, q.l ≤ 100000) :
    Calls Tryd.prog 13 #[.slice a n cap, .int .i64 1] w fun e w' => e = .returned (.int .i64 ((1 + offs Q n : Nat) : Int)) ∧ Below w.heap.size w w' := by
  have HO := Lib.hid h
  have HOF := Lib.hid (fun j (hj : j ≤ n) => offs_le Q 100000 hq j (by omega))
  have HN := Lib.hid hn
  have HQ := Lib.hid hq
  clear h hn hq
  go_enter Tryd.func13, Tryd.ntmps13
  go_wp2
  go_loopw [1, 5] (fun kk i wr => ∃ (j : Nat), j ≤ n ∧ kk = .int .i64 ((1 + offs Q j : Nat) : Int) ∧ i = .int .i64 (j : Int) ∧ Below w.heap.size w wr) (fun _ i _ => n - (intOf i).toNat)
  case atStart => exact ⟨0, Nat.zero_le _, rfl, rfl, Below.refl _ _⟩
  case round =>
    obtain ⟨j, hj, rfl, rfl, hb⟩ := hrel
    have HB := Lib.hid hb
    clear hb
    have hof := HOF.out j hj
    by_cases hlt : j < n
    · have hjQ : j < Q.length := by rw [HN.out]; exact hlt
      obtain ⟨g0, g, rfl, hga, hc, hown, hpos⟩ := (RowsOf.below HO.out HB.out).rowAt HN.out hlt
      have hll : (Q.getD j default).l ≤ 100000 := by rw [getD_ss Q hjQ]; exact HQ.out _ (List.getElem_mem hjQ)
      have hofs : offs Q (j + 1) = offs Q j + (Q.getD j default).l := rfl
      have hmk : mkF Q n j = markSL (Q.getD j default).l (1 + offs Q j) := by unfold mkF; rw [if_pos hlt]
      rw [hmk] at hown
      have HOFS := Lib.hid hofs
      obtain ⟨o, ho⟩ : ∃ o, offs Q j = o := ⟨_, rfl⟩
      rw [ho] at HOFS hof hown
      generalize (Q.getD j default).l = l at *
      generalize (Q.getD j default).c = c at *
      have HOWN := Lib.hid hown
      clear hofs hown hga hmk
      rw [ho]
      go_wp2_with fail
      refine (heldStringS_any B (some ⟨g, 0, none⟩) c l (1 + o) _ HOWN.out (by omega) (by omega) (by omega)).mono ?_
      rintro e w2 ⟨rfl, hb2⟩
      have HB2 := Lib.hid (HB.out.trans (hb2.mono HB.out.size))
      clear hb2
      go_wp2
      refine ⟨⟨j + 1, by omega, by rw [HOFS.out]; go_num, by go_num, HB2.out⟩, by simp [intOf]; omega⟩
    · obtain rfl : j = n := by omega
      go_wp2
      go_ret
      exact ⟨rfl, HB.out⟩
theorem rows_small {W : World} {B T N : Nat} {v : Value} {Q : List RowQ} {R : Row3} (h : ssOf Q = rowsS R) (hi : RowsIn W B v Q T) (hl : ∀ r ∈ R, r.length ≤ N) : ∀ q ∈ Q, q.l ≤ N := fun q hq => by
  obtain ⟨i, hi2, rfl⟩ := List.getElem_of_mem hq
  have h2 := (hi.each i hi2).2.1
  rw [getD_ss Q hi2] at h2
  have h3 : (Q[i]).ss.length = (Q[i]).l := by simpa using h2.1
  have h4 : (Q[i]).ss ∈ ssOf Q := List.mem_map_of_mem (List.getElem_mem hi2)
  rw [h] at h4
  obtain ⟨r, hr, e⟩ := List.mem_map.1 h4
  have h5 := hl r hr
  rw [← h3, ← e, List.length_map]
  exact h5
/-- two owned slices of rows of the same strings -/
theorem eqRowS_owned {B B' T T' : Nat} {a a' : Option Addr} {cap cap' n : Nat} {Q Q' : List RowQ} (w : World) (h : RowsIn w B (.slice a n cap) Q T) (h' : RowsIn w B' (.slice a' n cap') Q' T') (hn : Q.length = n) (hn' : Q'.length = n) (hs : ssOf Q = ssOf Q') (hl : n ≤ 100000) (hql : ∀ q ∈ Q, q.l ≤ 100000) :
    Calls Tryd.prog 11 #[.slice a n cap, .slice a' n cap'] w fun e w' => e = .returned (.bool true) ∧ Below w.heap.size w w' :=
  eqRowS_same a a' cap cap' n Q Q' w (h.read hn) (h'.read hn') hn hs (by omega) (fun q hq => by have := hql q hq; omega)
end Go.Proofs.YthpdmipgnoidpaaDoor

/-
  The walk of FnExactTsvText, out of the contracts. Conditions: the tables of unicode utf8 stand in memory, as the card ties them.
-/
import Derived.Test.YtobpecgecopdnaaGreatDoorRowOpen
import Derived.Test.YtobpecgecopdnaaGreatDoorTsvTextT
import Derived.Test.YtobpecgecopdnaaGreatDoorTsvCellW
namespace Go.Proofs.YtobpecgecopdnaaGreatDoor
open Go.RowKit
set_option linter.unusedVariables false
set_option linter.unusedSimpArgs false

theorem rowsQ_len {Q Q' : List RowQ} (h : ssOf Q' = ssOf Q) : Q'.length = Q.length := by
  have := congrArg List.length h
  unfold ssOf at this
  rwa [List.length_map, List.length_map] at this
theorem rowsQ_small {w : World} {a : Option Addr} {Q Q' : List RowQ} (h : ssOf Q' = ssOf Q) (hr : RowR w a Q') (hQ : ∀ q ∈ Q, q.ss.length ≤ 1048576 ∧ ∀ s ∈ q.ss, s.size ≤ 1048576) : ∀ q ∈ Q', q.l ≤ 1048576 ∧ ∀ s ∈ q.ss, s.size ≤ 1048576 := by
  intro q hq
  have h1 : q.ss ∈ ssOf Q' := List.mem_map_of_mem hq
  rw [h] at h1
  obtain ⟨q2, hq2, e⟩ := List.mem_map.1 h1
  have h2 := hQ q2 hq2
  rw [e] at h2
  have h3 := (hr.2 q hq).2.1
  exact ⟨by omega, h2.2⟩

theorem fnExactTsvText_any (w : World) (hT : Tabs w) (a : Option Addr) (cap n : Nat) (Q : List RowQ) (h : RowR w a Q) (hn : Q.length = n) (hm : n ≤ maxLen) (hq : ∀ q ∈ Q, q.l ≤ maxLen ∧ ∀ s ∈ q.ss, s.size ≤ maxLen) :
    Calls Tryz.prog 3 #[.slice a n cap] w fun e w' => e = .returned (.bool true) ∧ Below w.heap.size w w' := by
  unfold maxLen at hm hq
  have HT := Lib.hid hT
  have HR := Lib.hid h
  have HQ := Lib.hid hq
  have HN := Lib.hid hn
  clear hT h hq hn
  go_enter Tryz.func3, Tryz.ntmps3
  go_wp2_with fail
  refine (szRowS_any a cap n Q _ HR.out HN.out (by omega) HQ.out).mono ?_
  rintro e w0 ⟨v, rfl, hv, hb0⟩
  have HB0 := Lib.hid hb0
  have HV := Lib.hid hv
  clear hb0 hv
  by_cases hneg : v < 0
  · go_wp2
    go_ret
    exact ⟨rfl, HB0.out⟩
  · obtain ⟨hl, hsm⟩ := HV.out (by omega)
    have HSM := Lib.hid hsm
    have HSS := Lib.hid (show ∀ q ∈ Q, q.ss.length ≤ 1048576 ∧ ∀ s ∈ q.ss, s.size ≤ 1048576 from fun q hq => ⟨by rw [(HR.out.2 q hq).2.1]; exact (hsm q hq).1, (hsm q hq).2⟩)
    have HTO := Lib.hid (fun W (hb : Below w.heap.size w W) => toRowS_any a cap Q W (HR.out.below hb) (by rw [HN.out]; exact hl) (fun q hq => (hsm q hq).1))
    rw [HN.out] at HTO
    clear hsm
    go_wp2_with fail
    refine (HTO.out _ HB0.out).mono ?_
    rintro e w1 ⟨g1, Q1, rfl, hr1, hs1, hb1⟩
    rw [HN.out]
    have HR1 := Lib.hid hr1
    have HS1 := Lib.hid hs1
    have HB1 := Lib.hid (HB0.out.trans (hb1.mono HB0.out.size))
    clear hr1 hs1 hb1
    go_wp2_with fail
    refine (specTsvText_any _ _ n Q1 _ HR1.out (by rw [rowsQ_len HS1.out, HN.out]) hl (rowsQ_small HS1.out HR1.out HSS.out)).mono ?_
    rintro e w2 ⟨rfl, hb2⟩
    rw [HS1.out]
    obtain ⟨x, hx⟩ : ∃ x, rowsTx 9 clL (ssOf Q) = x := ⟨_, rfl⟩
    rw [hx]
    have HX := Lib.hid hx
    clear hx
    have HB2 := Lib.hid (HB1.out.trans (hb2.mono HB1.out.size))
    clear hb2
    go_wp2_with fail
    refine (HTO.out _ HB2.out).mono ?_
    rintro e w3 ⟨g3, Q3, rfl, hr3, hs3, hb3⟩
    rw [HN.out]
    have HR3 := Lib.hid hr3
    have HS3 := Lib.hid hs3
    have HB3 := Lib.hid (HB2.out.trans (hb3.mono HB2.out.size))
    clear hr3 hs3 hb3
    go_wp2_with fail
    refine (implTsvText_any _ _ n Q3 _ HR3.out (by rw [rowsQ_len HS3.out, HN.out]) hl (rowsQ_small HS3.out HR3.out HSS.out) (HT.out.below HB3.out)).mono ?_
    rintro e w4 ⟨rfl, hb4⟩
    rw [HS3.out, HX.out]
    have HB4 := Lib.hid (HB3.out.trans (hb4.mono HB3.out.size))
    have HR4 := Lib.hid (HR3.out.below hb4)
    clear hb4
    have hnb : (txB x != txB x) = false := by simp
    go_wp2_with fail
    refine (HTO.out _ HB4.out).mono ?_
    rintro e w5 ⟨g5, Q5, rfl, hr5, hs5, hb5⟩
    rw [HN.out]
    have HR5 := Lib.hid hr5
    have HS5 := Lib.hid hs5
    have HB5 := Lib.hid (HB4.out.trans (hb5.mono HB4.out.size))
    have HR45 := Lib.hid (HR4.out.below hb5)
    clear hr5 hs5 hb5
    go_wp2_with fail
    refine (eqRowS_same _ _ _ _ n Q3 Q5 _ HR45.out HR5.out (by rw [rowsQ_len HS3.out, HN.out]) (by rw [HS3.out, HS5.out]) (by omega) (fun q hq => by have := (rowsQ_small HS3.out HR3.out HSS.out q hq).1; omega)).mono ?_
    rintro e w6 ⟨rfl, hb6⟩
    have HB6 := Lib.hid (HB5.out.trans (hb6.mono HB5.out.size))
    clear hb6
    go_wp2_with fail
    go_ret
    exact ⟨rfl, HB6.out⟩

theorem fnExactTsvText_walk (w : World) (hT : Tabs w) (a : Option Addr) (len cap : Nat) (Q : List RowQ) (hr : IsRows w a len cap Q) :
    Calls Tryz.prog 3 #[.slice a len cap] w fun e w' => e = .returned (.bool true) ∧ Below w.heap.size w w' := by
  obtain ⟨h1, h2, h3, h4⟩ := isRows_row hr
  exact fnExactTsvText_any w hT a cap len (Q.take len) h1 h2 h3 h4
end Go.Proofs.YtobpecgecopdnaaGreatDoor

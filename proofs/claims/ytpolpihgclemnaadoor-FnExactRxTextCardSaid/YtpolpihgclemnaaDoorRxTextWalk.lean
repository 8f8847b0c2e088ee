/-
  The walk of FnExactRxText, out of the contracts. Condition: the table of powers of ten stands in memory, as the card ties it.
-/
import Derived.Test.YtpolpihgclemnaaDoorRxTextS
import Derived.Test.YtpolpihgclemnaaDoorRxOpen
namespace Go.Proofs.YtpolpihgclemnaaDoor
open Go.RowKit
open Go.Lib hiding intOf
set_option linter.unusedVariables false
set_option linter.unusedSimpArgs false

theorem ndsQ_len {Q Q' : List NdQ} (h : ndsOf Q' = ndsOf Q) : Q'.length = Q.length := by
  have := congrArg List.length h
  rwa [ndsOf_len, ndsOf_len] at this
theorem ndsQ_small {w w' : World} {a a' : Option Addr} {Q Q' : List NdQ} (h : ndsOf Q' = ndsOf Q) (hr : NdR w a Q') (hr0 : NdR w' a' Q) (hQ : ∀ q ∈ Q, q.sl ≤ 1048576 ∧ q.kl ≤ 1048576) : ∀ q ∈ Q', q.sl ≤ 1048576 ∧ q.kl ≤ 1048576 := by
  intro q hq
  have h1 : q.val ∈ ndsOf Q' := List.mem_map_of_mem hq
  rw [h] at h1
  obtain ⟨q2, hq2, e⟩ := List.mem_map.1 h1
  have h2 := hQ q2 hq2
  have h3 := (hr.2 q hq).2.1
  have h4 := (hr0.2 q2 hq2).2.1
  have h5 : q2.set = q.set := congrArg (fun v => v.2.2.2.2.1) e
  have h6 : q2.kids = q.kids := congrArg (fun v => v.2.2.2.2.2) e
  rw [← h3.1, ← h3.2, ← h5, ← h6, h4.1, h4.2]
  exact h2
theorem fnExactRxText_walk (w : World) (hP : PowTab w) (a : Option Addr) (n cap : Nat) (Q : List NdQ) (h : IsNds w a n Q) :
    Calls Tryd.prog 3 #[.agg #[.slice a n cap]] w fun e w' => e = .returned (.bool true) ∧ Below w.heap.size w w' := by
  obtain ⟨h0, hn, hm, hq⟩ := h
  unfold maxLen at hm hq
  have HP := Lib.hid hP
  clear hP
  have HR := Lib.hid h0
  have HQ := Lib.hid hq
  have HN := Lib.hid hn
  clear h0 hq hn
  obtain ⟨u, hu, hsz, hbu, hc0⟩ := rx_box w (.slice a n cap) 24
  have HRU := Lib.hid (HR.out.below hbu)
  have HU := Lib.hid hbu
  have HSZ := Lib.hid hsz
  have hlt : w.heap.size < u.heap.size := by omega
  clear hbu hsz
  go_enter Tryd.func3, Tryd.ntmps3
  go_wp2_with fail
  refine (szRx_any a cap n Q _ HRU.out HN.out (by omega) HQ.out).mono ?_
  rintro e w0 ⟨v, rfl, hv, hv2, hb0⟩
  have HB0 := Lib.hid hb0
  have HV := Lib.hid hv
  obtain ⟨hv3, hv4⟩ := hv2
  rw [← hb0.cell (p := ⟨w.heap.size, 0, none⟩) hlt] at hc0
  clear hb0 hv
  by_cases hneg : v < 0
  · go_wp2
    go_ret
    exact ⟨rfl, HU.out.trans (HB0.out.mono HU.out.size)⟩
  · obtain ⟨hl, hsm⟩ := HV.out (by omega)
    have HSM := Lib.hid hsm
    have HTO := Lib.hid (fun W (hb : Below u.heap.size u W) => toRx_any a cap Q W (HRU.out.below hb) (by rw [HN.out]; exact hl) hsm)
    rw [HN.out] at HTO
    clear hsm
    go_wp2_with fail
    refine (HTO.out _ HB0.out).mono ?_
    rintro e w1 ⟨g1, Q1, rfl, hr1, hs1, hb1⟩
    have HR1 := Lib.hid hr1
    have HS1 := Lib.hid hs1
    have HB1 := Lib.hid (HB0.out.trans (hb1.mono HB0.out.size))
    rw [← hb1.cell (p := ⟨w.heap.size, 0, none⟩) (Nat.lt_of_lt_of_le hlt HB0.out.size)] at hc0
    clear hr1 hs1 hb1
    go_wp2_with fail
    refine (specRxText_any _ _ n Q1 _ HR1.out (by rw [ndsQ_len HS1.out, HN.out]) hl (ndsQ_small HS1.out HR1.out HR.out HSM.out)).mono ?_
    rintro e w2 ⟨rfl, hb2⟩
    rw [HS1.out]
    have HB2 := Lib.hid (HB1.out.trans (hb2.mono HB1.out.size))
    rw [← hb2.cell (p := ⟨w.heap.size, 0, none⟩) (Nat.lt_of_lt_of_le hlt HB1.out.size)] at hc0
    clear hb2
    go_wp2_with fail
    refine (HTO.out _ HB2.out).mono ?_
    rintro e w3 ⟨g3, Q3, rfl, hr3, hs3, hb3⟩
    have HR3 := Lib.hid hr3
    have HS3 := Lib.hid hs3
    have HB3 := Lib.hid (HB2.out.trans (hb3.mono HB2.out.size))
    rw [← hb3.cell (p := ⟨w.heap.size, 0, none⟩) (Nat.lt_of_lt_of_le hlt HB2.out.size)] at hc0
    clear hr3 hs3 hb3
    obtain ⟨u3, hu3, hsz3, hbu3, hc3⟩ := rx_box w3 (.slice (some ⟨g3, 0, none⟩) n n) 29
    have HRU3 := Lib.hid (HR3.out.below hbu3)
    have HBU3 := Lib.hid (HB3.out.trans (hbu3.mono HB3.out.size))
    have hlt3 : w3.heap.size < u3.heap.size := by omega
    rw [← hbu3.cell (p := ⟨w.heap.size, 0, none⟩) (Nat.lt_of_lt_of_le hlt HB3.out.size)] at hc0
    clear hbu3 hsz3
    go_wp2_with fail
    refine (implRxText_any _ _ n Q3 _ HRU3.out (by rw [ndsQ_len HS3.out, HN.out]) hl (ndsQ_small HS3.out HRU3.out HR.out HSM.out) (HP.out.below (HU.out.trans (HBU3.out.mono HU.out.size)))).mono ?_
    rintro e w4 ⟨rfl, hb4⟩
    rw [HS3.out]
    have HB4 := Lib.hid (HBU3.out.trans (hb4.mono HBU3.out.size))
    have HR4 := Lib.hid (HRU3.out.below hb4)
    rw [← hb4.cell (p := ⟨w.heap.size, 0, none⟩) (Nat.lt_of_lt_of_le hlt HBU3.out.size)] at hc0
    rw [← hb4.cell (p := ⟨w3.heap.size, 0, none⟩) hlt3] at hc3
    have hlt4 : w3.heap.size < w4.heap.size := Nat.lt_of_lt_of_le hlt3 hb4.size
    have hlt0 : w.heap.size < w4.heap.size := Nat.lt_of_lt_of_le hlt HB4.out.size
    generalize ofL (rxT (ndsOf Q)) = V
    have hnb : (V.toList != V.toList) = false := by simp
    clear hb4
    have HT4 := Lib.hid (fun W (hb : Below w4.heap.size w4 W) => HTO.out W (HB4.out.trans (hb.mono HB4.out.size)))
    have HEQ := Lib.hid (fun (g : Nat) Q5 W (hb : Below w4.heap.size w4 W) (h5 : NdR W (some ⟨g, 0, none⟩) Q5) (hv5 : ndsOf Q5 = ndsOf Q) =>
      eqRx_same (some ⟨g3, 0, none⟩) (some ⟨g, 0, none⟩) n n n Q3 Q5 W (HR4.out.below hb) h5 (by rw [ndsQ_len HS3.out, HN.out]) (by rw [HS3.out, hv5]) (by omega) (ndsQ_small HS3.out HRU3.out HR.out HSM.out))
    have hI : Below w4.heap.size w4 w4 := Below.refl _ _
    have HBW := Lib.hid (HU.out.trans (HB4.out.mono HU.out.size))
    go_wp2_with fail
    go_region_held3 (fun w' => w'.cell? ⟨w.heap.size, 0, none⟩ = some (.slice a n cap) ∧ w'.cell? ⟨w3.heap.size, 0, none⟩ = some (.slice (some ⟨g3, 0, none⟩) n n)) (first | assumption | go_keep)
      (first
        | (go_at_call 6; refine (HT4.out _ (by first | assumption | exact Below.drew (by assumption))).mono ?_; rintro e w5 ⟨g5, Q5, rfl, hr5, hs5, hb5⟩; have hx5 : Below w4.heap.size w4 w5 := Below.trans (by first | assumption | exact Below.drew (by assumption)) (Below.mono hb5 (Below.size (by first | assumption | exact Below.drew (by assumption)))); have c5 : w5.cell? ⟨w.heap.size, 0, none⟩ = some (.slice a n cap) := (by have := hb5.cell (p := ⟨w.heap.size, 0, none⟩) (by first | assumption | exact cell_lt (by assumption)); rw [this]; assumption); have c6 : w5.cell? ⟨w3.heap.size, 0, none⟩ = some (.slice (some ⟨g3, 0, none⟩) n n) := (by have := hb5.cell (p := ⟨w3.heap.size, 0, none⟩) (by first | assumption | exact cell_lt (by assumption)); rw [this]; assumption); clear hb5)
        | (go_at_call 8; refine (HEQ.out _ _ _ (by first | assumption | exact Below.drew (by assumption)) (by first | assumption | exact NdR.below (by assumption) (Below.drew (Below.refl _ _))) (by assumption)).mono ?_; rintro e w6 ⟨rfl, hb6⟩; have hx6 : Below w4.heap.size w4 w6 := Below.trans (by first | assumption | exact Below.drew (by assumption)) (Below.mono hb6 (Below.size (by first | assumption | exact Below.drew (by assumption)))); have c7 : w6.cell? ⟨w.heap.size, 0, none⟩ = some (.slice a n cap) := (by have := hb6.cell (p := ⟨w.heap.size, 0, none⟩) (by first | assumption | exact cell_lt (by assumption)); rw [this]; assumption); have c8 : w6.cell? ⟨w3.heap.size, 0, none⟩ = some (.slice (some ⟨g3, 0, none⟩) n n) := (by have := hb6.cell (p := ⟨w3.heap.size, 0, none⟩) (by first | assumption | exact cell_lt (by assumption)); rw [this]; assumption); clear hb6))
    all_goals go_wp2
    all_goals go_ret
    all_goals exact ⟨rfl, HBW.out.trans (Below.mono (by first | assumption | exact Below.drew (by assumption)) HBW.out.size)⟩
end Go.Proofs.YtpolpihgclemnaaDoor

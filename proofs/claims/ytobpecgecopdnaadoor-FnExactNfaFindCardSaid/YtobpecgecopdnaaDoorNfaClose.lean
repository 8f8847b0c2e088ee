/-
  The program's closing of threads: close. Conditions: the automaton is sound, the run's blocks and the threads' are apart.
-/
import Derived.Test.YtobpecgecopdnaaDoorNfaCloseI
import Derived.Test.YtobpecgecopdnaaDoorNfaCome
import Derived.Test.YtobpecgecopdnaaDoorNfaPut
import Derived.Test.YtobpecgecopdnaaDoorBetw
import Derived.Deep.CutBlock
import Derived.Deep.QuietTactic
namespace Go.Proofs.YtobpecgecopdnaaDoor
open Go.RowKit
set_option linter.unusedVariables false
set_option linter.unusedSimpArgs false

theorem ownsRow_lo2 {w : World} {b b' : Nat} {e : TypeId} {sz : Nat} {v : Value} {n : Nat} {xs : List Value} (h : w.ownsRow b e sz v n xs) (hb : b' ≤ b) : w.ownsRow b' e sz v n xs := by
  refine ⟨h.1, ?_⟩
  rcases h.2 with hn | ⟨g, cap, cur, rfl, hbg, rest⟩
  · exact .inl hn
  · exact .inr ⟨g, cap, cur, rfl, Nat.le_trans hb hbg, rest⟩
theorem infoThr : (Tryd.prog.info? 88).map (fun i => (i.zero, i.size, i.bytes)) = some (some (.agg #[.int .i64 0, .int .i64 0]), 2, 16) := by kernel_rfl
set_option maxHeartbeats 6000000 in
set_option maxRecDepth 20000 in
theorem close_any (r sg : Nat) (a : Option Addr) (cap n : Nat) (Q : List OpQ) (sa : Option Addr) (sc L p N : Nat) (T : List Thr) (ta : Option Addr) (tc BT : Nat) (S0 : Nat → Nat) (r0 : Int × Int) (w0 w : World)
    (hr : OpR w0 a Q) (hb0 : Below w0.heap.size w0 w) (hn : Q.length = n) (hbd : ∀ i, i < n → OpBd n i (opAt (valsOf Q) i)) (h4 : n ≤ 4000) (hrm : RunM w r (.slice a n cap) (.slice sa L sc) (.slice (some ⟨sg, 0, none⟩) n n) r0) (hm : Marks w sg n (fun j => .int .i64 (S0 j : Int))) (hS : ∀ j, j < n → S0 j ≤ p)
    (hrs : r ≠ sg) (hlo : w0.heap.size ≤ r) (hlo2 : w0.heap.size ≤ sg) (ht : w.ownsRow BT 88 2 (.slice ta N tc) N (thC T)) (hN : T.length = N) (hN4 : N ≤ 8000) (hne : (Value.slice ta N tc).ownBlock ≠ some r) (hne2 : (Value.slice ta N tc).ownBlock ≠ some sg) (hT : ∀ t ∈ T, t.1 < n) (hord : Ord T) (hp : p ≤ 100000) :
    Calls Tryd.prog 52 #[.pointer (some ⟨r, 0, none⟩), .slice ta N tc, .int .i64 (p : Int)] w fun e w' => ∃ (v : Value) (M : Nat → Bool) (A : List Thr) (r1 : Int × Int) (S : Nat → Nat), e = .returned v ∧ CloO w r sg n (.slice a n cap) (.slice sa L sc) (valsOf Q) L p T r0 v w' M A r1 S := by
  obtain ⟨i0, hi0, hz0, hz1, hz2⟩ := info_parts infoInt
  obtain ⟨it, hit, htz0, htz1, htz2⟩ := info_parts infoThr
  have HR := Lib.hid hr
  have HB0 := Lib.hid hb0
  have HN := Lib.hid hn
  have HBDA := Lib.hid hbd
  have HT := Lib.hid hT
  have HTR := Lib.hid ht
  have HTN := Lib.hid hN
  have HNE := Lib.hid hne
  have HNE2 := Lib.hid hne2
  have HORD := Lib.hid hord
  have HSTART := Lib.hid (CloO.start (V := valsOf Q) (L := L) hrm hm hS)
  have hrl := hrm.lt
  have hsl := hm.lt
  have hw0 := hb0.size
  clear hr hb0 hn hbd hT ht hN hne hne2 hord hrm hm hS
  go_enter Tryd.func52, Tryd.ntmps52
  go_wp2
  go_loopw [7, 15] (fun av iv wr => ∃ (k : Nat) (M : Nat → Bool) (A : List Thr) (xy : Int × Int) (S : Nat → Nat), k ≤ N ∧ iv = .int .i64 (k : Int) ∧ CloO w r sg n (.slice a n cap) (.slice sa L sc) (valsOf Q) L p (T.take k) r0 av wr M A xy S) (fun _ iv _ => N - (intOf iv).toNat)
  case atStart => exact ⟨0, _, _, _, _, Nat.zero_le _, rfl, HSTART.out⟩
  case round =>
    obtain ⟨k, M, A, xy, S, hk, rfl, hc⟩ := hrel
    rename World => wo
    obtain ⟨aa, ac, hav⟩ := ownsTh_slice hc.act
    have HCO := Lib.hid hc
    have hszo := hc.most.size
    clear hc
    by_cases hlt : k < N
    · have hkT : k < T.length := by rw [HTN.out]; exact hlt
      rcases HTR.out.2 with ⟨_, h9⟩ | ⟨tg, _, _, htv, _, hth, _⟩
      · omega
      simp only [Value.slice.injEq, true_and] at htv
      obtain ⟨rfl, -⟩ := htv
      have hgl : tg < w.heap.size := (Array.getElem?_eq_some_iff.1 hth).1
      obtain ⟨g0, g1⟩ := thC_get T k hkT
      have ht0 : wo.cell? ⟨tg, k * 2, none⟩ = some (.int .i64 (T[k].1 : Int)) := by
        rw [HCO.out.most.cell (fun e => HNE.out (by rw [e]; rfl)) (fun e => HNE2.out (by rw [e]; rfl)) hgl, HTR.out.cellAt (k * 2) (by omega)]; exact g0
      have ht1 : wo.cell? ⟨tg, k * 2 + 1, none⟩ = some (.int .i64 (T[k].2 : Int)) := by
        rw [HCO.out.most.cell (fun e => HNE.out (by rw [e]; rfl)) (fun e => HNE2.out (by rw [e]; rfl)) hgl, HTR.out.cellAt (k * 2 + 1) (by omega)]; exact g1
      have htn := HT.out _ (List.getElem_mem hkT)
      have htk : T.take (k + 1) = T.take k ++ [T[k]] := List.take_succ_eq_append_getElem hkT
      have hlo3 : ∀ t' ∈ T.take k, t'.2 ≤ T[k].2 := by
        intro t' h
        obtain ⟨i, hi, e⟩ := List.getElem_of_mem h
        rw [List.getElem_take] at e
        rw [← e]
        exact List.pairwise_iff_getElem.1 HORD.out i k _ hkT (by rw [List.length_take] at hi; omega)
      generalize T[k] = t at *
      obtain ⟨t1, t2⟩ := t
      simp only [] at ht0 ht1 htn hlo3
      have HTKK := Lib.hid htk
      obtain ⟨u2, hu2⟩ : ∃ u2, wo.alloc (.cells #[.int .i64 (t1 : Int), .int .i64 (t2 : Int)] 88) = u2 := ⟨_, rfl⟩
      obtain ⟨u3, hu3⟩ : ∃ u3, u2.alloc (.cells #[.int .i64 (t1 : Int)] 3) = u3 := ⟨_, rfl⟩
      have HIN := Lib.hid (CloO.begin (t := (t1, t2)) HCO.out htn hlo3 hu2 hu3)
      have tv0 : u2.cell? ⟨wo.heap.size, 0, none⟩ = some (.int .i64 (t1 : Int)) := by rw [← hu2]; simp
      clear hth g0 g1 htk hlo3 hkT
      obtain ⟨tb, htb⟩ : ∃ tb, wo.heap.size = tb := ⟨_, rfl⟩
      rw [htb] at tv0 HIN hszo
      subst hav
      go_wp2
      go_loopw [7, 10] (fun av lv wi => ∃ (st : List Nat) (M : Nat → Bool) (A : List Thr) (xy : Int × Int) (S : Nat → Nat), CloI w r sg n tb (.slice a n cap) (.slice sa L sc) (valsOf Q) L p (T.take k) (t1, t2) r0 av lv wi st M A xy S) (fun _ lv wi => 2 * unm n (mOf (isP p) wi sg) + lenV lv)
      case atStart => exact ⟨_, _, _, _, _, HIN.out⟩
      case round =>
        clear HIN HCO tv0 ht0 ht1 hu2 hu3
        obtain ⟨st, M, A, xy, S, hc⟩ := hrel
        rename World => wi
        have hown := hc.stk
        have HC := Lib.hid hc
        have hszi := hc.most.size
        have hsum := hc.sum
        have hcnt := hc.cnt
        have hrun := hc.run
        have HBW := Lib.hid (show Below w0.heap.size w0 wi from HB0.out.trans (hc.most.below hlo hlo2 hw0))
        obtain ⟨ba, bc, hav⟩ := ownsTh_slice hc.act
        subst hav
        obtain ⟨m, hm⟩ : ∃ m, st.length = m := ⟨_, rfl⟩
        rw [hm] at hown hsum
        clear hc
        by_cases h0 : m = 0
        · subst h0
          have hst : st = [] := List.length_eq_zero_iff.1 hm
          subst hst
          obtain ⟨a1, c1, rfl⟩ := ownsRow_slice hown
          have HFI := Lib.hid (show CloO w r sg n (.slice a n cap) (.slice sa L sc) (valsOf Q) L p (T.take (k + 1)) r0 (.slice ba A.length bc) wi M A xy S from by rw [HTKK.out]; exact HC.out.finish)
          clear hrun
          go_wp2
          exact ⟨⟨k + 1, M, A, xy, S, by omega, by go_num, HFI.out⟩, by simp [intOf]; omega⟩
        obtain ⟨st', j, rfl, hm1⟩ := stack_last (st := st) (by omega)
        obtain ⟨m1, hm1'⟩ : ∃ m1, st'.length = m1 := ⟨_, rfl⟩
        rw [hm1', hm] at hm1
        subst hm1
        have HM1 := Lib.hid hm1'
        obtain ⟨g, c, rfl, hg⟩ := ownsRow_some hown (by omega)
        have hcap := (ownsRow_cap hown).1
        have hcj : wi.cell? ⟨g, m1, none⟩ = some (.int .i64 (j : Int)) := by
          rw [hown.cellAt m1 (by omega), List.map_append, List.getElem?_append_right (by simp [hm1'])]
          simp [hm1', intV]
        have htk := ownsRow_take hown (k := m1) (by omega) (by omega)
        rw [List.map_append, List.take_left' (by simp [hm1'])] at htk
        have hjn : j < n := HC.out.lt j (by simp)
        have hcm := HC.out.mks.cell j hjn
        have hfm := HC.out.mks.free j hjn
        have hgw := (hown.lt g rfl).1
        have hgh : g ≠ sg := by omega
        have hgr : g ≠ r := by omega
        have hgl2 : g < wi.heap.size := (hown.lt g rfl).2
        have HTK0 := Lib.hid htk
        have hse := HC.out.seen j hjn
        obtain ⟨R0, R1, R2, R3, R4, F3, F4, RL⟩ := hrun
        obtain ⟨x, hx⟩ : ∃ x, S j = x := ⟨_, rfl⟩
        rw [hx] at hcm hse
        have e63 : IntKind.i64.wrap ((p : Int) + 1) = (p : Int) + 1 := IntWalk.i64_in _ (by omega)
        clear hown htk hm hm1' hg hx
        cases hMj : M j
        case true =>
          have hxe : x = p + 1 := hse.2 hMj
          have hxx : (((x : Nat) : Int) == (p : Int) + 1) = true := by rw [beq_iff_eq]; omega
          obtain ⟨r1, r2⟩ := HC.out.skip hMj (by rw [HM1.out]; exact HTK0.out)
          have R1' := Lib.hid r1
          have R2' := Lib.hid r2
          clear r1 r2 hxe hse
          go_wp2
          exact ⟨⟨_, _, _, _, _, R1'.out⟩, R2'.out⟩
        case false =>
          have hxx : (((x : Nat) : Int) == (p : Int) + 1) = false := by
            rw [beq_eq_false_iff_ne]
            intro h
            have := hse.1 (by omega)
            rw [hMj] at this
            cases this
          clear hse
          obtain ⟨w1, hw1⟩ : ∃ w1, wi.setCell ⟨sg, j, none⟩ (.int .i64 ((p : Int) + 1)) = w1 := ⟨_, rfl⟩
          have hrm1 : RunM w1 r (.slice a n cap) (.slice sa L sc) (.slice (some ⟨sg, 0, none⟩) n n) xy := by rw [← hw1]; exact HC.out.run.set hrs
          have hmk1 : Marks w1 sg n (fun x => if x = j then .int .i64 ((p : Int) + 1) else .int .i64 (S x : Int)) := by rw [← hw1]; exact HC.out.mks.set hjn _
          have hmo1 : Most2 r sg w w1 := by rw [← hw1]; exact HC.out.most.trans (.set2 _ _ _ _ _)
          have hbw1 : Below w0.heap.size w0 w1 := HB0.out.trans (hmo1.below hlo hlo2 hw0)
          have hs1 : w1.heap.size = wi.heap.size := by rw [← hw1]; simp [World.setCell]
          have htk1 : w1.ownsRow w.heap.size 3 1 (.slice (some ⟨g, 0, none⟩) m1 c) m1 (st'.map intV) := by rw [← hw1]; exact ownsRow_setCell_other HTK0.out (by simpa [Value.ownBlock] using hgh) _
          have hac1 : w1.ownsRow w.heap.size 88 2 (.slice ba A.length bc) A.length (thC A) := by rw [← hw1]; exact ownsRow_setCell_other HC.out.act (fun e => by have := (HC.out.act.lt sg e).1; omega) _
          have hvr1 : ∃ z, w1.heap[tb]? = some (.cells #[.int .i64 (t1 : Int), .int .i64 (t2 : Int)] 88 z) := by
            obtain ⟨z, hz⟩ := HC.out.var
            refine ⟨z, ?_⟩
            rw [← hw1]
            unfold World.setCell
            simp only [Array.getElem?_modify]
            rw [if_neg (show ¬ sg = tb by omega)]
            exact hz
          have hjQ : j < Q.length := by rw [HN.out]; exact hjn
          obtain ⟨hr1, hr2⟩ := HR.out
          rcases hr1 with h9 | ⟨b, off, rfl, hbl, hcc⟩
          · rw [h9] at hjQ; exact absurd hjQ (Nat.not_lt_zero _)
          have hcq := (hcc j hjQ).below hbw1 hbl
          have hva : opAt (valsOf Q) j = (Q[j]).val := valsOf_get hjQ
          have HBD := Lib.hid (HBDA.out j hjn)
          have hbd := HBDA.out j hjn
          rw [hva] at hbd
          generalize Q[j] = q at *
          obtain ⟨op, qa, qb, neg, qsa, sl, qsc, set⟩ := q
          obtain ⟨d0, d1, d2, d3, d4⟩ := hcq
          simp only [] at d0 d1 d2 d3 d4
          have HVA := Lib.hid (show opAt (valsOf Q) j = (op, qa, qb, neg, set) from hva)
          obtain ⟨u5, hu5, s5, b5, ⟨c0, c1, c2, c3, c4⟩, hf5⟩ := laid5 w1 (.int .i64 op) (.int .i64 qa) (.int .i64 qb) (.bool neg) (.slice qsa sl qsc) 76
          rw [hs1] at c0 c1 c2 c3 c4 s5
          have HTK := Lib.hid (ownsRow_b2 htk1 b5)
          have HAC := Lib.hid (ownsRow_b2 hac1 b5)
          have HMK := Lib.hid (hmk1.below b5)
          have HMO := Lib.hid (hmo1.call b5)
          have HRM := Lib.hid (hrm1.below b5)
          have HVR := Lib.hid (show ∃ z, u5.heap[tb]? = some (.cells #[.int .i64 (t1 : Int), .int .i64 (t2 : Int)] 88 z) from by obtain ⟨z, hz⟩ := hvr1; exact ⟨z, by rw [b5.block tb (Array.getElem?_eq_some_iff.1 hz).1]; exact hz⟩)
          have HGH := Lib.hid hgh
          have HGR := Lib.hid hgr
          have HGT := Lib.hid (show g ≠ tb from fun e => by
            obtain ⟨z, hz⟩ := HVR.out
            rcases HTK.out.2 with ⟨h, _⟩ | ⟨g', _, _, hv, _, hh, _⟩
            · cases h
            · simp only [Value.slice.injEq, Option.some.injEq, Addr.mk.injEq, and_true] at hv
              obtain ⟨rfl, -⟩ := hv
              rw [e, hz] at hh
              simp at hh)
          have hu5le := HMO.out.size
          obtain ⟨K0, K1, K2, K3, K4, KF3, KF4, KL⟩ := hrm1
          obtain ⟨J0, J1, J2, J3, J4, JF3, JF4, JL⟩ := HRM.out
          clear s5 hva hcc hr2 hmk1 hmo1 hbw1 htk1 hac1 hvr1 b5 hf5 hjQ
          obtain ⟨hb1, hb2, hb3, hb4, hb5⟩ := hbd
          simp only [OpQ.val] at hb1 hb2 hb3 hb4 hb5
          by_cases o8 : op = 8
          · subst o8
            have hjf : j = n - 1 := by have := hb3.1 rfl; omega
            have hst : sucV (valsOf Q) L p j = [] := suc_none (L := L) (p := p) HVA.out (by decide) (by decide) (by omega)
            have HRD := Lib.hid (show rdgV (valsOf Q) j = false from by unfold rdgV; rw [HVA.out]; rfl)
            have tvc : u5.cell? ⟨tb, 1, none⟩ = some (.int .i64 (t2 : Int)) := by obtain ⟨z, hz⟩ := HVR.out; unfold World.cell?; rw [hz]; rfl
            obtain ⟨fx, fy⟩ := xy
            have HGO := Lib.hid (fun (W : World) (xy2 : Int × Int) (hx : xy2 = upd (fx, fy) t2 p) k1 k2 k3 k4 k5 k6 => HC.out.take (st2 := st') (av' := .slice ba A.length bc) (lv' := .slice (some ⟨g, 0, none⟩) m1 c) (w' := W) (A2 := A) (r2 := xy2) hMj HBD.out k1 k2 k3 k4 k5 (fun k => by rw [hst]; simp) (by omega) (by rw [if_neg (by rw [HRD.out]; decide)]) (by rw [if_pos hjf]; exact hx) k6 HC.out.anb HC.out.nil)
            obtain ⟨z, hz⟩ := HVR.out
            have HPUT := Lib.hid (fun d => by
              have hD := Go.below_drewN (Below.refl u5.heap.size u5) d
              exact put_keeps (W := u5.drewN d) (t2 : Int) (p : Int) (HRM.out.below hD) (HMK.out.below hD) (ownsRow_b2 HTK.out hD) (ownsRow_b2 HAC.out hD) hrl hrs (show (u5.drewN d).heap[tb]? = some (.cells #[.int .i64 (t1 : Int), .int .i64 (t2 : Int)] 88 z) from hz) (show r ≠ tb by omega))
            clear hst hjf hb1 hb2 hb3 hb4 hb5
            have q3 : fx < 0 ∨ ¬ fx < 0 := by omega
            rcases q3 with q3 | q3
            · have HX := Lib.hid (show ((t2 : Int), (p : Int)) = upd (fx, fy) t2 p from by unfold upd; rw [if_pos (.inl q3)])
              go_wp2
              go_quiet (fail)
              go_wp2
              have hp := HPUT.out nq
              obtain ⟨y1, y2, y3, y4, y5, y6⟩ := hp
              have hD := Go.below_drewN (Below.refl u5.heap.size u5) nq
              obtain ⟨r1, r2⟩ := HGO.out _ _ HX.out (by rw [HM1.out]; exact y3) y4 y1 y2 ((HMO.out.call hD).trans y6) ⟨z, y5⟩
              exact ⟨⟨_, _, _, _, _, r1⟩, r2⟩
            by_cases q4 : (t2 : Int) ≤ fx
            · have HX := Lib.hid (show ((t2 : Int), (p : Int)) = upd (fx, fy) t2 p from by unfold upd; rw [if_pos (.inr q4)])
              go_wp2
              go_quiet (fail)
              go_wp2
              have hp := HPUT.out nq
              obtain ⟨y1, y2, y3, y4, y5, y6⟩ := hp
              have hD := Go.below_drewN (Below.refl u5.heap.size u5) nq
              obtain ⟨r1, r2⟩ := HGO.out _ _ HX.out (by rw [HM1.out]; exact y3) y4 y1 y2 ((HMO.out.call hD).trans y6) ⟨z, y5⟩
              exact ⟨⟨_, _, _, _, _, r1⟩, r2⟩
            · have HX := Lib.hid (show (fx, fy) = upd (fx, fy) t2 p from by unfold upd; rw [if_neg (by intro h; rcases h with h | h; exact q3 h; exact q4 h)])
              have HST8 := Lib.hid (fun d => by
                have hD := Go.below_drewN (Below.refl u5.heap.size u5) d
                exact HGO.out (u5.drewN d) _ HX.out (by rw [HM1.out]; exact ownsRow_b2 HTK.out hD) (ownsRow_b2 HAC.out hD) (HRM.out.below hD) (HMK.out.below hD) (HMO.out.call hD) ⟨z, hz⟩)
              go_wp2
              go_quiet (fail)
              go_wp2
              obtain ⟨r1, r2⟩ := HST8.out nq
              exact ⟨⟨_, _, _, _, _, r1⟩, r2⟩
          have HNF := Lib.hid (show ¬ j = n - 1 from fun e => o8 (hb3.2 (by omega)))
          by_cases o3 : op < 4
          · have HRD := Lib.hid (show rdgV (valsOf Q) j = true from by unfold rdgV; rw [HVA.out]; simpa using o3)
            have HST := Lib.hid (suc_none (L := L) (p := p) HVA.out (by omega) (by omega) (by omega))
            have p7 : (op == 7) = false := by rw [beq_eq_false_iff_ne]; omega
            have p6 : (op == 6) = false := by rw [beq_eq_false_iff_ne]; omega
            have p4 : (op == 4) = false := by rw [beq_eq_false_iff_ne]; omega
            have p5 : (op == 5) = false := by rw [beq_eq_false_iff_ne]; omega
            have p8 : (op == 8) = false := by rw [beq_eq_false_iff_ne]; omega
            have tvc : u5.cell? ⟨tb, 1, none⟩ = some (.int .i64 (t2 : Int)) := by obtain ⟨z, hz⟩ := HVR.out; unfold World.cell?; rw [hz]; rfl
            have hal : A.length ≤ 4000 := by omega
            have htbu : tb < u5.heap.size := by obtain ⟨z, hz⟩ := HVR.out; exact (Array.getElem?_eq_some_iff.1 hz).1
            have HBN := Lib.hid ((Below.refl u5.heap.size u5).alloc (Nat.le_refl _) (.cells #[.int .i64 (j : Int), .int .i64 (t2 : Int)] 88))
            have HGO := Lib.hid (fun (W : World) (v : Value) k2 k3 k4 k5 k6 k7 k8 => HC.out.take (st2 := st') (av' := v) (lv' := .slice (some ⟨g, 0, none⟩) m1 c) (w' := W) (A2 := A ++ [(j, t2)]) (r2 := xy) hMj HBD.out k2 k3 k4 k5 k6 (fun k => by rw [HST.out]; simp) (by omega) (by rw [if_pos HRD.out]) (by rw [if_neg HNF.out]) k7 k8 (fun h => by simp at h))
            by_cases hA0 : A = []
            · subst hA0
              have hav := HC.out.nil rfl
              simp only [List.length_nil, Value.slice.injEq, true_and] at hav
              obtain ⟨rfl, rfl⟩ := hav
              have HNW := Lib.hid (World.ownsRow_nil u5 u5.heap.size 88 2)
              go_wp2_with (at_builtin; refine wpList_append_own _ rfl _ _ 86 rfl u5.heap.size 88 it (.agg #[.int .i64 0, .int .i64 0]) 2 16 Tryd.underlying86 hit htz0 htz1 htz2 rfl (by decide) _ _ _ rfl (HNW.out.alloc _) ⟨u5.heap.size, 0, none⟩ 1 1 [.int .i64 (j : Int), .int .i64 (t2 : Int)] rfl rfl (cell_two_new _ _ _ _) (fun y hy => by simp at hy; rcases hy with rfl | rfl <;> rfl) (by unfold maxLen; omega) (by omega) (by first | (simp; done) | (simp; omega)) ?_; intro v2 w2 hown2 hgr2 hnil2; clear hnil2; obtain ⟨a2, c2, rfl⟩ := ownsTh_slice hown2; have HO2 := Lib.hid hown2; have HG2 := Lib.hid hgr2; clear hown2 hgr2)
              have hbo : (Value.slice a2 (0 + 1) c2).ownBlock ≠ some tb := fun e => by have := (HO2.out.lt tb e).1; omega
              have hz0 : ∀ k, (Value.slice none 0 0).ownBlock ≠ some k := fun k e => by cases e
              obtain ⟨r1, r2⟩ := HGO.out w2 (.slice a2 (0 + 1) c2) (by rw [HM1.out]; exact (ownsRow_b2 HTK.out HBN.out).kept HG2.out (.inr (hz0 g).symm)) (by rw [thC_append]; exact ownsRow_lo2 HO2.out (by omega)) ((HRM.out.below HBN.out).grown HG2.out (fun e => hz0 r e.symm)) ((HMK.out.below HBN.out).grown HG2.out (fun e => hz0 sg e.symm)) ((HMO.out.call HBN.out).grown HG2.out (fun k hk => absurd hk (hz0 k))) (by obtain ⟨z, hz⟩ := HVR.out; exact ⟨z, by rw [HG2.out.block tb (Nat.lt_of_lt_of_le htbu HBN.out.size) (fun e => hz0 tb e.symm), HBN.out.block tb htbu]; exact hz⟩) hbo
              exact ⟨⟨_, _, _, _, _, r1⟩, r2⟩
            · have hA1 : 1 ≤ A.length := by cases A with | nil => exact absurd rfl hA0 | cons => simp
              go_wp2_with (at_builtin; refine wpList_append_own _ rfl _ _ 86 rfl w.heap.size 88 it (.agg #[.int .i64 0, .int .i64 0]) 2 16 Tryd.underlying86 hit htz0 htz1 htz2 rfl (by decide) _ _ _ rfl (HAC.out.alloc _) ⟨u5.heap.size, 0, none⟩ 1 1 [.int .i64 (j : Int), .int .i64 (t2 : Int)] rfl rfl (cell_two_new _ _ _ _) (fun y hy => by simp at hy; rcases hy with rfl | rfl <;> rfl) (by unfold maxLen; omega) (by omega) (by first | (simp; done) | (simp; omega)) ?_; intro v2 w2 hown2 hgr2 hnil2; clear hnil2; obtain ⟨a2, c2, rfl⟩ := ownsTh_slice hown2; have HO2 := Lib.hid hown2; have HG2 := Lib.hid hgr2; clear hown2 hgr2)
              have hlow : ∀ k, (Value.slice ba A.length bc).ownBlock = some k → w.heap.size ≤ k := fun k e => (HAC.out.lt k e).1
              obtain ⟨z, hz⟩ := HVR.out
              have hz1 := (HBN.out.block tb htbu).trans hz
              have hbo := act_fresh (xs := []) HG2.out HO2.out hA1 hz1 rfl HC.out.anb
              obtain ⟨r1, r2⟩ := HGO.out w2 (.slice a2 (A.length + 1) c2) (by rw [HM1.out]; exact (ownsRow_b2 HTK.out HBN.out).kept HG2.out (ownTypes2 (ownsRow_b2 HTK.out HBN.out) (HAC.out.alloc _) (by decide))) (by rw [thC_append, List.length_append]; exact HO2.out) ((HRM.out.below HBN.out).grown HG2.out (fun e => by have := hlow r e.symm; omega)) ((HMK.out.below HBN.out).grown HG2.out (fun e => by have := hlow sg e.symm; omega)) ((HMO.out.call HBN.out).grown HG2.out (fun k hk => hlow k hk)) ⟨z, by rw [HG2.out.block tb (Nat.lt_of_lt_of_le htbu HBN.out.size) (fun e => HC.out.anb e.symm)]; exact hz1⟩ hbo
              exact ⟨⟨_, _, _, _, _, r1⟩, r2⟩
          have HRD := Lib.hid (show rdgV (valsOf Q) j = false from by unfold rdgV; rw [HVA.out]; simpa using o3)
          by_cases o7 : op = 7
          · subst o7
            obtain ⟨X, rfl⟩ := Int.eq_ofNat_of_zero_le (hb4 rfl).1
            go_wp2_with (at_builtin; refine wpList_append_own _ rfl _ _ 49 rfl w.heap.size 3 i0 (.int .i64 0) 1 8 Tryd.underlying49 hi0 hz0 hz1 hz2 rfl (by decide) _ _ _ rfl (HTK.out.alloc _) ⟨u5.heap.size, 0, none⟩ 1 1 [.int .i64 (X : Int)] rfl rfl (cell_one_new _ _ _) (fun y hy => by simp at hy; subst hy; rfl) (by unfold maxLen; omega) (by omega) (by simp; omega) ?_; intro v2 w2 hown2 hgr2 hnil2; clear hnil2; obtain ⟨a2, c2, rfl⟩ := ownsRow_slice hown2; have HO2 := Lib.hid hown2; have HG2 := Lib.hid hgr2; clear hown2 hgr2)
            have hst := suc_jump (L := L) (p := p) HVA.out
            have HBN := (Below.refl u5.heap.size u5).alloc (Nat.le_refl _) (.cells #[.int .i64 (X : Int)] 3)
            obtain ⟨r1, r2⟩ := HC.out.take (st2 := st' ++ [X]) (av' := .slice ba A.length bc) (lv' := .slice a2 (m1 + 1) c2) (w' := w2) (A2 := A) (r2 := xy) hMj HBD.out (by rw [List.length_append, HM1.out, List.map_append]; exact HO2.out) ((ownsRow_b2 HAC.out HBN).kept HG2.out (ownTypes2 (ownsRow_b2 HAC.out HBN) (HTK.out.alloc _) (by decide))) ((HRM.out.below HBN).grown HG2.out (fun e => HGR.out (Option.some.inj (show some g = some r from e.symm)))) ((HMK.out.below HBN).grown HG2.out (fun e => HGH.out (Option.some.inj (show some g = some sg from e.symm)))) ((HMO.out.call HBN).grown HG2.out (fun k hk => (HTK.out.lt k hk).1)) (fun k => by rw [hst]; simp) (by simp) (by rw [if_neg (by rw [HRD.out]; decide)]) (by rw [if_neg HNF.out]) (by obtain ⟨z, hz⟩ := HVR.out; exact ⟨z, by rw [HG2.out.block tb (Nat.lt_of_lt_of_le (Array.getElem?_eq_some_iff.1 hz).1 HBN.size) (fun e => HGT.out (Option.some.inj (show some g = some tb from e.symm))), HBN.block tb (Array.getElem?_eq_some_iff.1 hz).1]; exact hz⟩) HC.out.anb HC.out.nil
            exact ⟨⟨_, _, _, _, _, r1⟩, r2⟩
          by_cases o6 : op = 6
          · subst o6
            obtain ⟨X, rfl⟩ := Int.eq_ofNat_of_zero_le (hb5 rfl).1.1
            obtain ⟨Y, rfl⟩ := Int.eq_ofNat_of_zero_le (hb5 rfl).2.1
            go_wp2_with (at_builtin; refine wpList_append_own _ rfl _ _ 49 rfl w.heap.size 3 i0 (.int .i64 0) 1 8 Tryd.underlying49 hi0 hz0 hz1 hz2 rfl (by decide) _ _ _ rfl (HTK.out.alloc _) ⟨u5.heap.size, 0, none⟩ 2 2 [.int .i64 (Y : Int), .int .i64 (X : Int)] rfl rfl (cell_two_new _ _ _ _) (fun y hy => by simp at hy; rcases hy with rfl | rfl <;> rfl) (by unfold maxLen; omega) (by omega) (by simp; omega) ?_; intro v2 w2 hown2 hgr2 hnil2; clear hnil2; obtain ⟨a2, c2, rfl⟩ := ownsRow_slice hown2; have HO2 := Lib.hid hown2; have HG2 := Lib.hid hgr2; clear hown2 hgr2)
            have hst := suc_split (L := L) (p := p) HVA.out
            have HBN := (Below.refl u5.heap.size u5).alloc (Nat.le_refl _) (.cells #[.int .i64 (Y : Int), .int .i64 (X : Int)] 3)
            obtain ⟨r1, r2⟩ := HC.out.take (st2 := st' ++ [Y, X]) (av' := .slice ba A.length bc) (lv' := .slice a2 (m1 + 2) c2) (w' := w2) (A2 := A) (r2 := xy) hMj HBD.out (by rw [List.length_append, HM1.out, List.map_append]; exact HO2.out) ((ownsRow_b2 HAC.out HBN).kept HG2.out (ownTypes2 (ownsRow_b2 HAC.out HBN) (HTK.out.alloc _) (by decide))) ((HRM.out.below HBN).grown HG2.out (fun e => HGR.out (Option.some.inj (show some g = some r from e.symm)))) ((HMK.out.below HBN).grown HG2.out (fun e => HGH.out (Option.some.inj (show some g = some sg from e.symm)))) ((HMO.out.call HBN).grown HG2.out (fun k hk => (HTK.out.lt k hk).1)) (fun k => by rw [hst]; simp [or_comm]) (by simp) (by rw [if_neg (by rw [HRD.out]; decide)]) (by rw [if_neg HNF.out]) (by obtain ⟨z, hz⟩ := HVR.out; exact ⟨z, by rw [HG2.out.block tb (Nat.lt_of_lt_of_le (Array.getElem?_eq_some_iff.1 hz).1 HBN.size) (fun e => HGT.out (Option.some.inj (show some g = some tb from e.symm))), HBN.block tb (Array.getElem?_eq_some_iff.1 hz).1]; exact hz⟩) HC.out.anb HC.out.nil
            exact ⟨⟨_, _, _, _, _, r1⟩, r2⟩
          have o45 : op = 4 ∨ op = 5 := by omega
          by_cases on : (op = 4 ∧ p = 0) ∨ (op = 5 ∧ p = L)
          · have HST := Lib.hid (suc_next (L := L) (p := p) HVA.out on)
            rcases on with ⟨o4, hp0⟩ | ⟨o5, hp0⟩
            · subst o4
              have hp1 : ((p : Int) == 0) = true := by rw [beq_iff_eq]; omega
              clear hp0
              go_wp2_with (at_builtin; refine wpList_append_own _ rfl _ _ 49 rfl w.heap.size 3 i0 (.int .i64 0) 1 8 Tryd.underlying49 hi0 hz0 hz1 hz2 rfl (by decide) _ _ _ rfl (HTK.out.alloc _) ⟨u5.heap.size, 0, none⟩ 1 1 [.int .i64 ((j : Int) + 1)] rfl rfl (cell_one_new _ _ _) (fun y hy => by simp at hy; subst hy; rfl) (by unfold maxLen; omega) (by omega) (by simp; omega) ?_; intro v2 w2 hown2 hgr2 hnil2; clear hnil2; obtain ⟨a2, c2, rfl⟩ := ownsRow_slice hown2; have HO2 := Lib.hid hown2; have HG2 := Lib.hid hgr2; clear hown2 hgr2)
              have hst := HST.out
              have HBN := (Below.refl u5.heap.size u5).alloc (Nat.le_refl _) (.cells #[.int .i64 ((j : Int) + 1)] 3)
              obtain ⟨r1, r2⟩ := HC.out.take (st2 := st' ++ [j + 1]) (av' := .slice ba A.length bc) (lv' := .slice a2 (m1 + 1) c2) (w' := w2) (A2 := A) (r2 := xy) hMj HBD.out (by rw [List.length_append, HM1.out, List.map_append]; exact HO2.out) ((ownsRow_b2 HAC.out HBN).kept HG2.out (ownTypes2 (ownsRow_b2 HAC.out HBN) (HTK.out.alloc _) (by decide))) ((HRM.out.below HBN).grown HG2.out (fun e => HGR.out (Option.some.inj (show some g = some r from e.symm)))) ((HMK.out.below HBN).grown HG2.out (fun e => HGH.out (Option.some.inj (show some g = some sg from e.symm)))) ((HMO.out.call HBN).grown HG2.out (fun k hk => (HTK.out.lt k hk).1)) (fun k => by rw [hst]; simp) (by simp) (by rw [if_neg (by rw [HRD.out]; decide)]) (by rw [if_neg HNF.out]) (by obtain ⟨z, hz⟩ := HVR.out; exact ⟨z, by rw [HG2.out.block tb (Nat.lt_of_lt_of_le (Array.getElem?_eq_some_iff.1 hz).1 HBN.size) (fun e => HGT.out (Option.some.inj (show some g = some tb from e.symm))), HBN.block tb (Array.getElem?_eq_some_iff.1 hz).1]; exact hz⟩) HC.out.anb HC.out.nil
              exact ⟨⟨_, _, _, _, _, r1⟩, r2⟩
            · subst o5
              have hp1 : ((p : Int) == (L : Int)) = true := by rw [beq_iff_eq]; omega
              clear hp0
              go_wp2_with (at_builtin; refine wpList_append_own _ rfl _ _ 49 rfl w.heap.size 3 i0 (.int .i64 0) 1 8 Tryd.underlying49 hi0 hz0 hz1 hz2 rfl (by decide) _ _ _ rfl (HTK.out.alloc _) ⟨u5.heap.size, 0, none⟩ 1 1 [.int .i64 ((j : Int) + 1)] rfl rfl (cell_one_new _ _ _) (fun y hy => by simp at hy; subst hy; rfl) (by unfold maxLen; omega) (by omega) (by simp; omega) ?_; intro v2 w2 hown2 hgr2 hnil2; clear hnil2; obtain ⟨a2, c2, rfl⟩ := ownsRow_slice hown2; have HO2 := Lib.hid hown2; have HG2 := Lib.hid hgr2; clear hown2 hgr2)
              have hst := HST.out
              have HBN := (Below.refl u5.heap.size u5).alloc (Nat.le_refl _) (.cells #[.int .i64 ((j : Int) + 1)] 3)
              obtain ⟨r1, r2⟩ := HC.out.take (st2 := st' ++ [j + 1]) (av' := .slice ba A.length bc) (lv' := .slice a2 (m1 + 1) c2) (w' := w2) (A2 := A) (r2 := xy) hMj HBD.out (by rw [List.length_append, HM1.out, List.map_append]; exact HO2.out) ((ownsRow_b2 HAC.out HBN).kept HG2.out (ownTypes2 (ownsRow_b2 HAC.out HBN) (HTK.out.alloc _) (by decide))) ((HRM.out.below HBN).grown HG2.out (fun e => HGR.out (Option.some.inj (show some g = some r from e.symm)))) ((HMK.out.below HBN).grown HG2.out (fun e => HGH.out (Option.some.inj (show some g = some sg from e.symm)))) ((HMO.out.call HBN).grown HG2.out (fun k hk => (HTK.out.lt k hk).1)) (fun k => by rw [hst]; simp) (by simp) (by rw [if_neg (by rw [HRD.out]; decide)]) (by rw [if_neg HNF.out]) (by obtain ⟨z, hz⟩ := HVR.out; exact ⟨z, by rw [HG2.out.block tb (Nat.lt_of_lt_of_le (Array.getElem?_eq_some_iff.1 hz).1 HBN.size) (fun e => HGT.out (Option.some.inj (show some g = some tb from e.symm))), HBN.block tb (Array.getElem?_eq_some_iff.1 hz).1]; exact hz⟩) HC.out.anb HC.out.nil
              exact ⟨⟨_, _, _, _, _, r1⟩, r2⟩
          · have hst := suc_none (L := L) (p := p) HVA.out o7 o6 on
            obtain ⟨r1, r2⟩ := HC.out.take (st2 := st') (av' := .slice ba A.length bc) (lv' := .slice (some ⟨g, 0, none⟩) m1 c) (w' := u5) (A2 := A) (r2 := xy) hMj HBD.out (by rw [HM1.out]; exact HTK.out) HAC.out HRM.out HMK.out HMO.out (fun k => by rw [hst]; simp) (by omega) (by rw [if_neg (by rw [HRD.out]; decide)]) (by rw [if_neg HNF.out]) HVR.out HC.out.anb HC.out.nil
            have R1' := Lib.hid r1
            have R2' := Lib.hid r2
            clear r1 r2 hst
            rcases o45 with o4 | o5
            · subst o4
              have hp1 : ((p : Int) == 0) = false := by rw [beq_eq_false_iff_ne]; omega
              go_wp2_with fail
              exact ⟨⟨_, _, _, _, _, R1'.out⟩, R2'.out⟩
            · subst o5
              have hp1 : ((p : Int) == (L : Int)) = false := by rw [beq_eq_false_iff_ne]; omega
              go_wp2_with fail
              exact ⟨⟨_, _, _, _, _, R1'.out⟩, R2'.out⟩
    · obtain rfl : k = N := by omega
      subst hav
      have hh := HCO.out
      rw [List.take_of_length_le (by rw [HTN.out]; exact Nat.le_refl _)] at hh
      have HH := Lib.hid hh
      clear hh
      go_wp2
      go_ret
      exact ⟨_, M, A, xy, S, rfl, HH.out⟩
end Go.Proofs.YtobpecgecopdnaaDoor

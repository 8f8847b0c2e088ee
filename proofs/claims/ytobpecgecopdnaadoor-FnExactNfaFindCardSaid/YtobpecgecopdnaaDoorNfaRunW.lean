/-
  The program's run of an automaton: runNfa. Conditions: the automaton is sound, bounds.
-/
import Derived.Test.YtobpecgecopdnaaDoorNfaRunI
import Derived.Lib.QuietBelow
import Derived.Deep.CutBlock
namespace Go.Proofs.YtobpecgecopdnaaDoor
open Go.RowKit
set_option linter.unusedVariables false
set_option linter.unusedSimpArgs false

/-- the run with the threads of a round, ahead of their closing -/
structure RunX (w wr : World) (r sg n : Nat) (ov lv : Value) (Q : List OpQ) (L : Nat) (R : List Nat) (fr p : Nat) (T : List Thr) (xy : Int × Int) (S : Nat → Nat) (tv : Value) : Prop where
  thr : wr.ownsRow (w.heap.size + 2) 88 2 tv T.length (thC T)
  run : RunM wr r ov lv (.slice (some ⟨sg, 0, none⟩) n n) xy
  mks : Marks wr sg n (fun j => .int .i64 (S j : Int))
  sle : ∀ j, j < n → S j ≤ p
  below : Below w.heap.size w wr
  plain : RunN L (SU Q L) (TK Q R) (n - 1) fr p T xy
  lt : ∀ t ∈ T, t.1 < n
  len : T.length ≤ n + 1
theorem wpQuiet_skip {P : Program} {ops : Array Oper} {C : World → Prop} {Q : Act → Prop} {a : Act} {o : Oper} {rest : List Oper} (h : Region.wanted o (yielded ops a.tmps) = false) (k : wpQuiet P ops C Q rest (a.put o.dst undef)) : wpQuiet P ops C Q (o :: rest) a := by
  refine wpQuiet_step (fun K hK => ?_)
  rw [if_neg (by rw [h]; simp)]
  exact hK _ k
theorem wpQuiet_do {P : Program} {ops : Array Oper} {C : World → Prop} {Q : Act → Prop} {a : Act} {o : Oper} {rest : List Oper} (h : Region.wanted o (yielded ops a.tmps) = true) (k : ∀ K : Act → Prop, (∀ a, wpQuiet P ops C Q rest a → K a) → o.quiet P a C K) : wpQuiet P ops C Q (o :: rest) a := by
  refine wpQuiet_step (fun K hK => ?_)
  rw [if_pos h]
  exact k K hK
theorem thr_two (wi : World) (a1 a2 : Nat) (t : TypeId) : ∃ u, wi.alloc (.cells #[.int .i64 (a1 : Int), .int .i64 (a2 : Int)] t) = u ∧ u.heap.size = wi.heap.size + 1 ∧ Below wi.heap.size wi u ∧ u.cell? ⟨wi.heap.size, 0, none⟩ = some (.int .i64 (a1 : Int)) ∧ u.cell? ⟨wi.heap.size, 1, none⟩ = some (.int .i64 (a2 : Int)) :=
  ⟨_, rfl, by simp, (Below.refl _ _).alloc (Nat.le_refl _) _, by simp, by simp⟩

set_option maxHeartbeats 6000000 in
set_option maxRecDepth 20000 in
theorem runNfa_any (a : Option Addr) (cap n : Nat) (Q : List OpQ) (sa : Option Addr) (sc L : Nat) (R : List Nat) (fr : Nat) (w : World) (hr : OpR w a Q) (hn : Q.length = n) (hok : nfaOk (valsOf Q) = true) (hql : ∀ q ∈ Q, q.sl ≤ 1048576) (hs : RowI .i64 w sa (R.map Int.ofNat)) (hL : R.length = L) (hl : L ≤ 1000) (hf : fr ≤ L) :
    Calls Tryd.prog 30 #[.slice a n cap, .slice sa L sc, .int .i64 (fr : Int), .bool false] w fun e w' => ∃ x y : Int, e = .returned (.tuple #[.int .i64 x, .int .i64 y]) ∧ FindP L (SU Q L) (TK Q R) (n - 1) fr x y ∧ Below w.heap.size w w' := by
  obtain ⟨i0, hi0, hz0, hz1, hz2⟩ := info_parts infoInt
  obtain ⟨it, hit, htz0, htz1, htz2⟩ := info_parts infoThr
  obtain ⟨hn1, hn4⟩ := nfaOk_len hok
  rw [valsOf_len, hn] at hn1 hn4
  have hbd : ∀ i, i < n → OpBd n i (opAt (valsOf Q) i) := fun i hi => opBd_of (by rw [valsOf_len]; exact hn) hok hi
  have HR := Lib.hid hr
  have HN := Lib.hid hn
  have HQL := Lib.hid hql
  have HS := Lib.hid hs
  have HRL := Lib.hid hL
  have HBDA := Lib.hid hbd
  have hmk := makeInts n (by omega) w
  obtain ⟨w1, hw1⟩ : ∃ w1, w.alloc (.cells (madeCells #[.int .i64 0] n) 3) = w1 := ⟨_, rfl⟩
  have hs1 : w1.heap.size = w.heap.size + 1 := by rw [← hw1]; simp
  have hm1 := mk_ints0 n w
  have hb1 : Below w.heap.size w w1 := by rw [← hw1]; exact (Below.refl _ _).alloc (Nat.le_refl _) _
  rw [hw1] at hm1 hmk
  obtain ⟨sg, hsg⟩ : ∃ sg, w.heap.size = sg := ⟨_, rfl⟩
  obtain ⟨r, hr1⟩ : ∃ r, w1.heap.size = r := ⟨_, rfl⟩
  rw [hsg] at hm1 hmk
  obtain ⟨w2, hu2, s2, b2, ⟨c0, c1, c2, c3, c4⟩, hf2⟩ := laid5 w1 (.slice a n cap) (.slice sa L sc) (.slice (some ⟨sg, 0, none⟩) n n) (.int .i64 (-1)) (.int .i64 (-1)) 85
  have HB2 := Lib.hid (hb1.trans (b2.mono (by omega)))
  have HMK := Lib.hid (hm1.below b2)
  rw [hr1] at c0 c1 c2 c3 c4 s2 hf2
  have HRUN : Hid (RunM w2 r (.slice a n cap) (.slice sa L sc) (.slice (some ⟨sg, 0, none⟩) n n) (-1, -1)) := Lib.hid ⟨c0, c1, c2, c3, c4, hf2 3, hf2 4, by omega⟩
  have HSZ := Lib.hid (show w.heap.size = sg ∧ r = sg + 1 ∧ w2.heap.size = sg + 2 from ⟨hsg, by omega, by omega⟩)
  clear hr hn hql hs hL hbd hm1 c0 c1 c2 c3 c4 b2 hf2 hs1 hsg s2 hw1 hb1
  go_enter Tryd.func30, Tryd.ntmps30
  go_wp2
  clear hmk hu2 hr1
  go_loopw [11, 12] (fun tv iv wr => ∃ (p : Nat) (T : List Thr) (xy : Int × Int) (S : Nat → Nat), fr ≤ p ∧ p ≤ L + 1 ∧ iv = .int .i64 (p : Int) ∧ RunO w wr r sg n (.slice a n cap) (.slice sa L sc) Q L R fr p T xy S tv) (fun _ iv _ => L + 1 - (intOf iv).toNat)
  case atStart => exact ⟨fr, [], (-1, -1), fun _ => 0, Nat.le_refl _, by omega, rfl, ⟨World.ownsRow_nil _ _ _ _, HRUN.out, HMK.out, fun _ _ => Nat.zero_le _, HB2.out, runP_start, fun t h => by simp at h, by simp⟩⟩
  case round =>
    clear HRUN HMK HB2
    obtain ⟨p, T, ⟨fx, fy⟩, S, hp1, hp2, rfl, ho⟩ := hrel
    rename World => wr
    have HO := Lib.hid ho
    obtain ⟨ta, tc, htv⟩ := ownsTh_slice ho.thr
    subst htv
    obtain ⟨K0, K1, K2, K3, K4, KF3, KF4, KL⟩ := ho.run
    have htl := ho.len
    have hbw := ho.below.size
    clear ho
    by_cases hpL : p ≤ L
    · go_upto_region 6 with fail
      go_cut [43] from 24 to 107 (fun s43 wx => s43 = .bool (decide (fx < 0)) ∧ wx = wr)
      case first =>
        by_cases hx : fx < 0
        · go_wp2
          go_meet
          exact ⟨by simp [hx], rfl⟩
        · go_wp2
          go_meet
          exact ⟨by simp [hx], rfl⟩
      obtain ⟨rfl, hwc⟩ := hcut
      obtain rfl : wr = _ := hwc.symm
      go_upto_if 43 with fail
      go_cut [11] from 24 to 107 (fun tv wx => ∃ T' : List Thr, RunX w wx r sg n (.slice a n cap) (.slice sa L sc) Q L R fr p T' (fx, fy) S tv)
      case first =>
        by_cases hx : fx < 0
        · have hwr2 : w.heap.size + 2 ≤ wr.heap.size := by have := HSZ.out; omega
          go_wp2_with (at_builtin; refine wpList_append_own _ rfl _ _ 86 rfl (w.heap.size + 2) 88 it (.agg #[.int .i64 0, .int .i64 0]) 2 16 Tryd.underlying86 hit htz0 htz1 htz2 rfl (by decide) _ _ _ rfl (HO.out.thr.alloc _) ⟨wr.heap.size, 0, none⟩ 1 1 [.int .i64 0, .int .i64 (p : Int)] rfl rfl (cell_two_new _ _ _ _) (fun y hy => by simp at hy; rcases hy with rfl | rfl <;> rfl) (by unfold maxLen; omega) (by omega) (by simp; omega) ?_; intro v2 w2 hown2 hgr2 hnil2; clear hnil2; obtain ⟨a2, c2, rfl⟩ := ownsTh_slice hown2; have HO2 := Lib.hid hown2; have HG2 := Lib.hid hgr2; clear hown2 hgr2)
          go_meet
          have HBN := (Below.refl wr.heap.size wr).alloc (Nat.le_refl _) (.cells #[.int .i64 0, .int .i64 (p : Int)] 88)
          have hlow : ∀ k, (Value.slice ta T.length tc).ownBlock = some k → w.heap.size + 2 ≤ k := fun k e => (HO.out.thr.lt k e).1
          exact ⟨T ++ [(0, p)], ⟨by rw [thC_snoc, List.length_append]; exact HO2.out, (HO.out.run.below HBN).grown HG2.out (fun e => by have := hlow r e.symm; have := HSZ.out; omega), (HO.out.mks.below HBN).grown HG2.out (fun e => by have := hlow sg e.symm; have := HSZ.out; omega), HO.out.sle, Below.grown (HO.out.below.alloc hbw _) HG2.out (by simp; omega) (fun k hk => by have := hlow k hk; omega), HO.out.plain.new hp1 hpL hx, fun t ht => by
            rcases List.mem_append.1 ht with h | h
            · exact HO.out.lt t h
            · simp at h; rw [h]; exact hn1, by rw [List.length_append]; simp; omega⟩⟩
        · go_wp2
          go_meet
          exact ⟨T, ⟨HO.out.thr, HO.out.run, HO.out.mks, HO.out.sle, HO.out.below, HO.out.plain.old (by show ¬ fx < 0; omega), HO.out.lt, by omega⟩⟩
      case rest =>
        obtain ⟨T', hx⟩ := hcut
        rename World => wx
        clear HO K0 K1 K2 K3 K4 KF3 KF4 KL htl hbw
        have HX := Lib.hid hx
        obtain ⟨ta', tc', htv⟩ := ownsTh_slice hx.thr
        subst htv
        have hbx := hx.below.size
        have htl := hx.len
        by_cases hT0 : T' = []
        · subst hT0
          have HF := Lib.hid (hx.plain.none hp1 hpL)
          obtain ⟨K0, K1, K2, K3, K4, KF3, KF4, KL⟩ := hx.run
          have HBW := Lib.hid hx.below
          clear hx
          go_wp2
          go_quiet (fail)
          go_wp2
          go_ret2
          exact ⟨fx, fy, rfl, HF.out, Go.below_drewN HBW.out _⟩
        · have hT1 : 1 ≤ T'.length := by cases T' with | nil => exact absurd rfl hT0 | cons => simp
          obtain ⟨N, hN⟩ : ∃ N, T'.length = N := ⟨_, rfl⟩
          have HNN := Lib.hid hN
          have hlow : ∀ k, (Value.slice ta' T'.length tc').ownBlock = some k → w.heap.size + 2 ≤ k := fun k e => (hx.thr.lt k e).1
          have HCL := Lib.hid (close_any r sg a cap n Q sa sc L p N T' ta' tc' (w.heap.size + 2) S (fx, fy) w wx HR.out hx.below HN.out HBDA.out hn4 hx.run hx.mks hx.sle (by have := HSZ.out; omega) (by have := HSZ.out; omega) (by have := HSZ.out; omega) (by rw [← hN]; exact hx.thr) hN (by omega) (fun e => by have := hlow r (by rw [hN]; exact e); have := HSZ.out; omega) (fun e => by have := hlow sg (by rw [hN]; exact e); have := HSZ.out; omega) hx.lt hx.plain.ord (by omega))
          have hNz : ((N : Int) == 0) = false := by rw [beq_eq_false_iff_ne]; omega
          rw [hN]
          clear hx hlow hN hT0
          go_wp2_with fail
          refine HCL.out.mono ?_
          rintro e w4 ⟨v, M, A, ⟨gx, gy⟩, S', rfl, hc⟩
          obtain ⟨aa, ac, hav⟩ := ownsTh_slice hc.act
          subst hav
          have HC := Lib.hid hc
          have hmo := hc.most
          have HB4 := Lib.hid (HX.out.below.trans (hmo.below (by have := HSZ.out; omega) (by have := HSZ.out; omega) hbx))
          have hs4 := hmo.size
          have hal := hc.cnt
          clear hc hmo HCL
          go_wp2
          go_loopw [11, 58] (fun tv kv wi => ∃ k : Nat, k ≤ A.length ∧ kv = .int .i64 (k : Int) ∧ wi.ownsRow w4.heap.size 88 2 tv (onT (goOn (valsOf Q) R L p (gx, gy)) (A.take k)).length (thC (onT (goOn (valsOf Q) R L p (gx, gy)) (A.take k))) ∧ Below w4.heap.size w4 wi) (fun _ kv _ => A.length - (intOf kv).toNat)
          case atStart => exact ⟨0, Nat.zero_le _, rfl, World.ownsRow_nil _ _ _ _, Below.refl _ _⟩
          case round =>
            obtain ⟨k, hk, rfl, hth, hb⟩ := hrel
            rename World => wi
            obtain ⟨xa, xc, hxv⟩ := ownsTh_slice hth
            subst hxv
            have HTH := Lib.hid hth
            have HBI := Lib.hid hb
            have hsi := hb.size
            have hol := onT_len (goOn (valsOf Q) R L p (gx, gy)) (A.take k)
            rw [List.length_take] at hol
            obtain ⟨m, hm⟩ : ∃ m, (onT (goOn (valsOf Q) R L p (gx, gy)) (A.take k)).length = m := ⟨_, rfl⟩
            rw [hm] at HTH hol
            rw [hm]
            have HM := Lib.hid hm
            have HRI := Lib.hid (HC.out.run.below hb)
            clear hth hb hm
            by_cases hlt : k < A.length
            · rcases HC.out.act.2 with ⟨_, h9⟩ | ⟨tg, _, _, htv, _, hth, _⟩
              · omega
              simp only [Value.slice.injEq, true_and] at htv
              obtain ⟨rfl, -⟩ := htv
              have hgl : tg < w4.heap.size := (Array.getElem?_eq_some_iff.1 hth).1
              obtain ⟨g0, g1⟩ := thC_get A k hlt
              have ht0 : wi.cell? ⟨tg, k * 2, none⟩ = some (.int .i64 (A[k].1 : Int)) := by
                rw [HBI.out.cell (p := ⟨tg, k * 2, none⟩) hgl, HC.out.act.cellAt (k * 2) (by omega)]; exact g0
              have ht1 : wi.cell? ⟨tg, k * 2 + 1, none⟩ = some (.int .i64 (A[k].2 : Int)) := by
                rw [HBI.out.cell (p := ⟨tg, k * 2 + 1, none⟩) hgl, HC.out.act.cellAt (k * 2 + 1) (by omega)]; exact g1
              have hmem : A[k] ∈ A := List.getElem_mem hlt
              have han := HC.out.alt _ hmem
              have hrd := (HC.out.clo.sound _ hmem).1
              have htk : onT (goOn (valsOf Q) R L p (gx, gy)) (A.take (k + 1)) = onT (goOn (valsOf Q) R L p (gx, gy)) (A.take k) ++ if goOn (valsOf Q) R L p (gx, gy) A[k] = true then [(A[k].1 + 1, A[k].2)] else [] := by
                rw [List.take_succ_eq_append_getElem hlt, onT_snoc]
              generalize A[k] = t at *
              obtain ⟨a1, a2⟩ := t
              simp only [] at ht0 ht1 han hrd htk
              have HTK := Lib.hid htk
              have hgi : tg < wi.heap.size := by omega
              obtain ⟨u, hu, su, bu, v0, v1⟩ := thr_two wi a1 a2 88
              obtain ⟨tb, htb⟩ : ∃ tb, wi.heap.size = tb := ⟨_, rfl⟩
              have HBU := Lib.hid bu
              have HBU4 := Lib.hid (HBI.out.trans (bu.mono hsi))
              have HBUW := Lib.hid (HB4.out.trans (HBU4.out.mono HB4.out.size))
              have HTHU := Lib.hid (ownsRow_b2 HTH.out bu)
              obtain ⟨J0, J1, J2, J3, J4, JF3, JF4, JL⟩ := HRI.out.below bu
              rw [htb] at v0 v1 su
              have htbu : tb < u.heap.size := by omega
              have HSU := Lib.hid (show w4.heap.size ≤ u.heap.size from HBU4.out.size)
              have haQ : a1 < Q.length := by rw [HN.out]; exact han
              obtain ⟨hr1, hr2⟩ := HR.out
              rcases hr1 with h9 | ⟨b, off, rfl, hbl2, hcc⟩
              · rw [h9] at haQ; exact absurd haQ (Nat.not_lt_zero _)
              have hcq := (hcc a1 haQ).below HBUW.out hbl2
              have hfine := (hr2 _ (List.getElem_mem haQ)).below HBUW.out
              have hqsl := HQL.out _ (List.getElem_mem haQ)
              have hva : opAt (valsOf Q) a1 = (Q[a1]).val := valsOf_get haQ
              have hbd1 := HBDA.out a1 han
              have hblu : b < u.heap.size := Nat.lt_of_lt_of_le hbl2 HBUW.out.size
              have hrl : r < u.heap.size := JL
              obtain ⟨qq, hqq⟩ : ∃ qq, Q[a1] = qq := ⟨_, rfl⟩
              rw [hqq] at hcq hfine hqsl hva
              clear hr2 hcc hqq haQ hth g0 g1 hmem bu
              by_cases hpl : p < L
              · have hpR : p < R.length := by rw [HRL.out]; exact hpl
                have hplI : (p : Int) < (L : Int) := by omega
                rcases HS.out with h8 | ⟨b2, off2, rfl, hbl3, hcr⟩
                · rw [List.map_eq_nil_iff] at h8; rw [h8] at hpR; exact absurd hpR (Nat.not_lt_zero _)
                have hcr0 := hcr p (by rw [List.length_map]; exact hpR)
                have hgd : (R.map Int.ofNat).getD p 0 = ((R.getD p 0 : Nat) : Int) := by
                  rw [List.getD_eq_getElem?_getD, List.getElem?_map, List.getElem?_eq_getElem hpR, List.getD_eq_getElem?_getD, List.getElem?_eq_getElem hpR]
                  rfl
                rw [hgd, ← HBUW.out.cell (p := ⟨b2, off2 + p, none⟩) hbl3] at hcr0
                have hb3u : b2 < u.heap.size := Nat.lt_of_lt_of_le hbl3 HBUW.out.size
                have htt := take_tk (V := valsOf Q) (R := R) (p := p) (k := a1) hbd1.lo (by unfold rdgV at hrd; simpa using hrd)
                rw [hva] at htt
                have HGN := Lib.hid (show goOn (valsOf Q) R L p (gx, gy) (a1, a2) = (takeB qq.val ((R.getD p 0 : Nat) : Int) && (decide (gx < 0) || decide ((a2 : Int) ≤ gx))) by unfold goOn; rw [decide_eq_true hpl, Bool.true_and, htt])
                obtain ⟨c, hcd⟩ : ∃ c, R.getD p 0 = c := ⟨_, rfl⟩
                rw [hcd] at hcr0 HGN
                have HTA := Lib.hid (fun W (h : Below u.heap.size u W) => takes_any (.pointer (some ⟨r, 0, none⟩)) qq (c : Int) W (hfine.below h) hqsl)
                obtain ⟨tkb, htkb⟩ : ∃ tkb, takeB qq.val (c : Int) = tkb := ⟨_, rfl⟩
                rw [htkb] at HTA HGN
                obtain ⟨op, qa, qb, neg, qsa, sl, qsc, set⟩ := qq
                obtain ⟨d0, d1, d2, d3, d4⟩ := hcq
                simp only [] at d0 d1 d2 d3 d4
                have hI : Below u.heap.size u u := Below.refl _ _
                clear htkb hcd hva hbd1 hfine htt hgd hcr hpR hrd hqsl
                have k0 := cell_regrown J0
                have k3 := cell_regrown J3
                have kv0 := cell_regrown v0
                have kv1 := cell_regrown v1
                have kd0 := cell_regrown d0
                have kd1 := cell_regrown d1
                have kd2 := cell_regrown d2
                have kd3 := cell_regrown d3
                have kd4 := cell_regrown d4
                have kc := cell_regrown hcr0
                have cT : ∀ d os, Calls Tryd.prog 53 #[.pointer (some ⟨r, 0, none⟩), .agg #[.int .i64 op, .int .i64 qa, .int .i64 qb, .bool neg, .slice qsa sl qsc], .int .i64 (c : Int)] (Sort.grow (redrawn u d) os) fun e w'' => e = .returned (.bool tkb) ∧ ∃ p : Regrown, w'' = Sort.grow (redrawn u p.d) p.os := fun d os => Calls.regrown_of (HTA.out _ (below_regrown u d os))
                cases tkb
                case false =>
                  have HNX := Lib.hid (show onT (goOn (valsOf Q) R L p (gx, gy)) (A.take (k + 1)) = onT (goOn (valsOf Q) R L p (gx, gy)) (A.take k) by rw [HTK.out, HGN.out]; simp)
                  go_wp2
                  refine wp_region_quiet_below (by kernel_rfl) (by kernel_rfl) ?_
                  with_reducible refine wpQuiet_do (by kernel_rfl) (fun K hK => ?_)
                  go_simp
                  with_reducible refine hK _ ?_
                  clear hK K
                  with_reducible refine wpQuiet_do (by kernel_rfl) (fun K hK => ?_)
                  go_simp
                  with_reducible refine hK _ ?_
                  clear hK K
                  with_reducible refine wpQuiet_do (by kernel_rfl) (fun K hK => ?_)
                  go_simp
                  with_reducible refine hK _ ?_
                  clear hK K
                  with_reducible refine wpQuiet_do (by kernel_rfl) (fun K hK => ?_)
                  go_simp
                  with_reducible refine hK _ ?_
                  clear hK K
                  with_reducible refine wpQuiet_do (by kernel_rfl) (fun K hK => ?_)
                  go_simp
                  with_reducible refine hK _ ?_
                  clear hK K
                  with_reducible refine wpQuiet_do (by kernel_rfl) (fun K hK => ?_)
                  go_simp
                  with_reducible refine hK _ ?_
                  clear hK K
                  with_reducible refine wpQuiet_do (by kernel_rfl) (fun K hK => ?_)
                  go_simp
                  with_reducible refine hK _ ?_
                  clear hK K
                  with_reducible refine wpQuiet_do (by kernel_rfl) (fun K hK => ?_)
                  go_simp
                  with_reducible refine hK _ ?_
                  clear hK K
                  with_reducible refine wpQuiet_do (by kernel_rfl) (fun K hK => ?_)
                  go_simp
                  with_reducible refine hK _ ?_
                  clear hK K
                  with_reducible refine wpQuiet_do (by kernel_rfl) (fun K hK => ?_)
                  go_simp
                  with_reducible refine hK _ ?_
                  clear hK K
                  with_reducible refine wpQuiet_do (by kernel_rfl) (fun K hK => ?_)
                  go_simp
                  with_reducible refine hK _ ?_
                  clear hK K
                  with_reducible refine wpQuiet_do (by kernel_rfl) (fun K hK => ?_)
                  go_simp
                  with_reducible refine hK _ ?_
                  clear hK K
                  with_reducible refine wpQuiet_do (by kernel_rfl) (fun K hK => ?_)
                  go_simp
                  with_reducible refine hK _ ?_
                  clear hK K
                  with_reducible refine wpQuiet_do (by kernel_rfl) (fun K hK => ?_)
                  go_simp
                  with_reducible refine hK _ ?_
                  clear hK K
                  with_reducible refine wpQuiet_do (by kernel_rfl) (fun K hK => ?_)
                  go_simp
                  with_reducible refine hK _ ?_
                  clear hK K
                  with_reducible refine wpQuiet_do (by kernel_rfl) (fun K hK => ?_)
                  go_simp
                  with_reducible refine hK _ ?_
                  clear hK K
                  with_reducible refine wpQuiet_do (by kernel_rfl) (fun K hK => ?_)
                  go_simp
                  with_reducible refine hK _ ?_
                  clear hK K
                  with_reducible refine wpQuiet_do (by kernel_rfl) (fun K hK => ?_)
                  go_simp
                  with_reducible refine hK _ ?_
                  clear hK K
                  with_reducible refine wpQuiet_do (by kernel_rfl) (fun K hK => ?_)
                  go_simp
                  apply Exists.intro
                  refine ⟨fun _ => ?_, hK _ ?_⟩
                  · with_reducible exact cT _ _
                  clear hK K
                  with_reducible refine wpQuiet_do (by kernel_rfl) (fun K hK => ?_)
                  go_simp
                  with_reducible refine hK _ ?_
                  clear hK K
                  with_reducible refine wpQuiet_do (by kernel_rfl) (fun K hK => ?_)
                  go_simp
                  with_reducible refine hK _ ?_
                  clear hK K
                  with_reducible refine wpQuiet_skip (by kernel_rfl) ?_
                  simp only [Act.put, List.setIfInBounds_toArray, List.set_cons_zero, List.set_cons_succ]
                  with_reducible refine wpQuiet_skip (by kernel_rfl) ?_
                  simp only [Act.put, List.setIfInBounds_toArray, List.set_cons_zero, List.set_cons_succ]
                  with_reducible refine wpQuiet_skip (by kernel_rfl) ?_
                  simp only [Act.put, List.setIfInBounds_toArray, List.set_cons_zero, List.set_cons_succ]
                  with_reducible refine wpQuiet_skip (by kernel_rfl) ?_
                  simp only [Act.put, List.setIfInBounds_toArray, List.set_cons_zero, List.set_cons_succ]
                  with_reducible refine wpQuiet_skip (by kernel_rfl) ?_
                  simp only [Act.put, List.setIfInBounds_toArray, List.set_cons_zero, List.set_cons_succ]
                  with_reducible refine wpQuiet_skip (by kernel_rfl) ?_
                  simp only [Act.put, List.setIfInBounds_toArray, List.set_cons_zero, List.set_cons_succ]
                  with_reducible refine wpQuiet_skip (by kernel_rfl) ?_
                  simp only [Act.put, List.setIfInBounds_toArray, List.set_cons_zero, List.set_cons_succ]
                  with_reducible refine wpQuiet_skip (by kernel_rfl) ?_
                  simp only [Act.put, List.setIfInBounds_toArray, List.set_cons_zero, List.set_cons_succ]
                  with_reducible refine wpQuiet_skip (by kernel_rfl) ?_
                  simp only [Act.put, List.setIfInBounds_toArray, List.set_cons_zero, List.set_cons_succ]
                  with_reducible refine wpQuiet_skip (by kernel_rfl) ?_
                  simp only [Act.put, List.setIfInBounds_toArray, List.set_cons_zero, List.set_cons_succ]
                  with_reducible refine wpQuiet_skip (by kernel_rfl) ?_
                  simp only [Act.put, List.setIfInBounds_toArray, List.set_cons_zero, List.set_cons_succ]
                  with_reducible refine wpQuiet_skip (by kernel_rfl) ?_
                  simp only [Act.put, List.setIfInBounds_toArray, List.set_cons_zero, List.set_cons_succ]
                  with_reducible refine wpQuiet_skip (by kernel_rfl) ?_
                  simp only [Act.put, List.setIfInBounds_toArray, List.set_cons_zero, List.set_cons_succ]
                  with_reducible refine wpQuiet_skip (by kernel_rfl) ?_
                  simp only [Act.put, List.setIfInBounds_toArray, List.set_cons_zero, List.set_cons_succ]
                  with_reducible refine wpQuiet_do (by kernel_rfl) (fun K hK => ?_)
                  go_simp
                  with_reducible refine hK _ ?_
                  clear hK K
                  refine wpQuiet_nil ?_
                  intro _ hw'
                  obtain ⟨⟨dq, osq⟩, hw''⟩ := hw'
                  subst hw''
                  have HWQ := Lib.hid (below_regrown u dq osq)
                  generalize Sort.grow (redrawn u dq) osq = W at *
                  go_wp2
                  exact ⟨⟨k + 1, by omega, by go_num, by rw [HNX.out, HM.out]; exact ownsRow_b2 HTHU.out HWQ.out, HBU4.out.trans (HWQ.out.mono HSU.out)⟩, by simp [intOf]; omega⟩
                case true =>
                  by_cases hgx : gx < 0
                  · have HNX := Lib.hid (show onT (goOn (valsOf Q) R L p (gx, gy)) (A.take (k + 1)) = onT (goOn (valsOf Q) R L p (gx, gy)) (A.take k) ++ [(a1 + 1, a2)] by rw [HTK.out, HGN.out]; simp [hgx])
                    go_wp2
                    refine wp_region_quiet_below (by kernel_rfl) (by kernel_rfl) ?_
                    with_reducible refine wpQuiet_do (by kernel_rfl) (fun K hK => ?_)
                    go_simp
                    with_reducible refine hK _ ?_
                    clear hK K
                    with_reducible refine wpQuiet_do (by kernel_rfl) (fun K hK => ?_)
                    go_simp
                    with_reducible refine hK _ ?_
                    clear hK K
                    with_reducible refine wpQuiet_do (by kernel_rfl) (fun K hK => ?_)
                    go_simp
                    with_reducible refine hK _ ?_
                    clear hK K
                    with_reducible refine wpQuiet_do (by kernel_rfl) (fun K hK => ?_)
                    go_simp
                    with_reducible refine hK _ ?_
                    clear hK K
                    with_reducible refine wpQuiet_do (by kernel_rfl) (fun K hK => ?_)
                    go_simp
                    with_reducible refine hK _ ?_
                    clear hK K
                    with_reducible refine wpQuiet_do (by kernel_rfl) (fun K hK => ?_)
                    go_simp
                    with_reducible refine hK _ ?_
                    clear hK K
                    with_reducible refine wpQuiet_do (by kernel_rfl) (fun K hK => ?_)
                    go_simp
                    with_reducible refine hK _ ?_
                    clear hK K
                    with_reducible refine wpQuiet_do (by kernel_rfl) (fun K hK => ?_)
                    go_simp
                    with_reducible refine hK _ ?_
                    clear hK K
                    with_reducible refine wpQuiet_do (by kernel_rfl) (fun K hK => ?_)
                    go_simp
                    with_reducible refine hK _ ?_
                    clear hK K
                    with_reducible refine wpQuiet_do (by kernel_rfl) (fun K hK => ?_)
                    go_simp
                    with_reducible refine hK _ ?_
                    clear hK K
                    with_reducible refine wpQuiet_do (by kernel_rfl) (fun K hK => ?_)
                    go_simp
                    with_reducible refine hK _ ?_
                    clear hK K
                    with_reducible refine wpQuiet_do (by kernel_rfl) (fun K hK => ?_)
                    go_simp
                    with_reducible refine hK _ ?_
                    clear hK K
                    with_reducible refine wpQuiet_do (by kernel_rfl) (fun K hK => ?_)
                    go_simp
                    with_reducible refine hK _ ?_
                    clear hK K
                    with_reducible refine wpQuiet_do (by kernel_rfl) (fun K hK => ?_)
                    go_simp
                    with_reducible refine hK _ ?_
                    clear hK K
                    with_reducible refine wpQuiet_do (by kernel_rfl) (fun K hK => ?_)
                    go_simp
                    with_reducible refine hK _ ?_
                    clear hK K
                    with_reducible refine wpQuiet_do (by kernel_rfl) (fun K hK => ?_)
                    go_simp
                    with_reducible refine hK _ ?_
                    clear hK K
                    with_reducible refine wpQuiet_do (by kernel_rfl) (fun K hK => ?_)
                    go_simp
                    with_reducible refine hK _ ?_
                    clear hK K
                    with_reducible refine wpQuiet_do (by kernel_rfl) (fun K hK => ?_)
                    go_simp
                    with_reducible refine hK _ ?_
                    clear hK K
                    with_reducible refine wpQuiet_do (by kernel_rfl) (fun K hK => ?_)
                    go_simp
                    apply Exists.intro
                    refine ⟨fun _ => ?_, hK _ ?_⟩
                    · with_reducible exact cT _ _
                    clear hK K
                    with_reducible refine wpQuiet_do (by kernel_rfl) (fun K hK => ?_)
                    go_simp
                    with_reducible refine hK _ ?_
                    clear hK K
                    with_reducible refine wpQuiet_do (by kernel_rfl) (fun K hK => ?_)
                    go_simp
                    with_reducible refine hK _ ?_
                    clear hK K
                    with_reducible refine wpQuiet_do (by kernel_rfl) (fun K hK => ?_)
                    go_simp
                    with_reducible refine hK _ ?_
                    clear hK K
                    with_reducible refine wpQuiet_do (by kernel_rfl) (fun K hK => ?_)
                    go_simp
                    with_reducible refine hK _ ?_
                    clear hK K
                    with_reducible refine wpQuiet_do (by kernel_rfl) (fun K hK => ?_)
                    go_simp
                    with_reducible refine hK _ ?_
                    clear hK K
                    with_reducible refine wpQuiet_do (by kernel_rfl) (fun K hK => ?_)
                    go_simp
                    with_reducible refine hK _ ?_
                    clear hK K
                    with_reducible refine wpQuiet_do (by kernel_rfl) (fun K hK => ?_)
                    go_simp
                    with_reducible refine hK _ ?_
                    clear hK K
                    with_reducible refine wpQuiet_do (by kernel_rfl) (fun K hK => ?_)
                    go_simp
                    with_reducible refine hK _ ?_
                    clear hK K
                    with_reducible refine wpQuiet_skip (by kernel_rfl) ?_
                    simp only [Act.put, List.setIfInBounds_toArray, List.set_cons_zero, List.set_cons_succ]
                    with_reducible refine wpQuiet_skip (by kernel_rfl) ?_
                    simp only [Act.put, List.setIfInBounds_toArray, List.set_cons_zero, List.set_cons_succ]
                    with_reducible refine wpQuiet_skip (by kernel_rfl) ?_
                    simp only [Act.put, List.setIfInBounds_toArray, List.set_cons_zero, List.set_cons_succ]
                    with_reducible refine wpQuiet_skip (by kernel_rfl) ?_
                    simp only [Act.put, List.setIfInBounds_toArray, List.set_cons_zero, List.set_cons_succ]
                    with_reducible refine wpQuiet_skip (by kernel_rfl) ?_
                    simp only [Act.put, List.setIfInBounds_toArray, List.set_cons_zero, List.set_cons_succ]
                    with_reducible refine wpQuiet_skip (by kernel_rfl) ?_
                    simp only [Act.put, List.setIfInBounds_toArray, List.set_cons_zero, List.set_cons_succ]
                    with_reducible refine wpQuiet_skip (by kernel_rfl) ?_
                    simp only [Act.put, List.setIfInBounds_toArray, List.set_cons_zero, List.set_cons_succ]
                    with_reducible refine wpQuiet_do (by kernel_rfl) (fun K hK => ?_)
                    go_simp
                    with_reducible refine hK _ ?_
                    clear hK K
                    with_reducible refine wpQuiet_do (by kernel_rfl) (fun K hK => ?_)
                    go_simp
                    with_reducible refine hK _ ?_
                    clear hK K
                    refine wpQuiet_nil ?_
                    intro _ hw'
                    obtain ⟨⟨dq, osq⟩, hw''⟩ := hw'
                    subst hw''
                    have HWQ := Lib.hid (below_regrown u dq osq)
                    generalize Sort.grow (redrawn u dq) osq = W at *
                    have HTHW := Lib.hid (ownsRow_b2 HTHU.out HWQ.out)
                    have hw4 := Nat.le_trans HSU.out HWQ.out.size
                    have w1v : W.cell? ⟨tb, 0, none⟩ = some (.int .i64 (a1 : Int)) := (HWQ.out.cell (p := ⟨tb, 0, none⟩) htbu).trans v0
                    have w2v : W.cell? ⟨tb, 1, none⟩ = some (.int .i64 (a2 : Int)) := (HWQ.out.cell (p := ⟨tb, 1, none⟩) htbu).trans v1
                    clear J0 J1 J2 J3 J4 JF3 JF4 JL k0 k3 kv0 kv1 kd0 kd1 kd2 kd3 kd4 kc cT d0 d1 d2 d3 d4 hcr0 v0 v1
                    go_wp2_with (at_builtin; refine wpList_append_own _ rfl _ _ 86 rfl w4.heap.size 88 it (.agg #[.int .i64 0, .int .i64 0]) 2 16 Tryd.underlying86 hit htz0 htz1 htz2 rfl (by decide) _ _ _ rfl (HTHW.out.alloc _) ⟨W.heap.size, 0, none⟩ 1 1 [.int .i64 ((a1 : Int) + 1), .int .i64 (a2 : Int)] rfl rfl (cell_two_new _ _ _ _) (fun y hy => by simp at hy; rcases hy with rfl | rfl <;> rfl) (by unfold maxLen; omega) (by omega) (by simp; omega) ?_; intro v2 w5 hown2 hgr2 hnil2; clear hnil2; obtain ⟨a2', c2', rfl⟩ := ownsTh_slice hown2; have HO2 := Lib.hid hown2; have HG2 := Lib.hid hgr2; clear hown2 hgr2)
                    have hlow : ∀ k, (Value.slice xa m xc).ownBlock = some k → w4.heap.size ≤ k := fun k e => (HTHW.out.lt k e).1
                    exact ⟨⟨k + 1, by omega, by go_num, by rw [HNX.out, thC_snoc, List.length_append, HM.out]; exact HO2.out, Below.grown ((HBU4.out.trans (HWQ.out.mono HSU.out)).alloc hw4 _) HG2.out (by simp; omega) hlow⟩, by simp [intOf]; omega⟩
                  · have q1 : decide (gx < 0) = false := decide_eq_false hgx
                    by_cases hga : (a2 : Int) ≤ gx
                    · have HNX := Lib.hid (show onT (goOn (valsOf Q) R L p (gx, gy)) (A.take (k + 1)) = onT (goOn (valsOf Q) R L p (gx, gy)) (A.take k) ++ [(a1 + 1, a2)] by rw [HTK.out, HGN.out]; simp [hga])
                      go_wp2
                      refine wp_region_quiet_below (by kernel_rfl) (by kernel_rfl) ?_
                      with_reducible refine wpQuiet_do (by kernel_rfl) (fun K hK => ?_)
                      go_simp
                      with_reducible refine hK _ ?_
                      clear hK K
                      with_reducible refine wpQuiet_do (by kernel_rfl) (fun K hK => ?_)
                      go_simp
                      with_reducible refine hK _ ?_
                      clear hK K
                      with_reducible refine wpQuiet_do (by kernel_rfl) (fun K hK => ?_)
                      go_simp
                      with_reducible refine hK _ ?_
                      clear hK K
                      with_reducible refine wpQuiet_do (by kernel_rfl) (fun K hK => ?_)
                      go_simp
                      with_reducible refine hK _ ?_
                      clear hK K
                      with_reducible refine wpQuiet_do (by kernel_rfl) (fun K hK => ?_)
                      go_simp
                      with_reducible refine hK _ ?_
                      clear hK K
                      with_reducible refine wpQuiet_do (by kernel_rfl) (fun K hK => ?_)
                      go_simp
                      with_reducible refine hK _ ?_
                      clear hK K
                      with_reducible refine wpQuiet_do (by kernel_rfl) (fun K hK => ?_)
                      go_simp
                      with_reducible refine hK _ ?_
                      clear hK K
                      with_reducible refine wpQuiet_do (by kernel_rfl) (fun K hK => ?_)
                      go_simp
                      with_reducible refine hK _ ?_
                      clear hK K
                      with_reducible refine wpQuiet_do (by kernel_rfl) (fun K hK => ?_)
                      go_simp
                      with_reducible refine hK _ ?_
                      clear hK K
                      with_reducible refine wpQuiet_do (by kernel_rfl) (fun K hK => ?_)
                      go_simp
                      with_reducible refine hK _ ?_
                      clear hK K
                      with_reducible refine wpQuiet_do (by kernel_rfl) (fun K hK => ?_)
                      go_simp
                      with_reducible refine hK _ ?_
                      clear hK K
                      with_reducible refine wpQuiet_do (by kernel_rfl) (fun K hK => ?_)
                      go_simp
                      with_reducible refine hK _ ?_
                      clear hK K
                      with_reducible refine wpQuiet_do (by kernel_rfl) (fun K hK => ?_)
                      go_simp
                      with_reducible refine hK _ ?_
                      clear hK K
                      with_reducible refine wpQuiet_do (by kernel_rfl) (fun K hK => ?_)
                      go_simp
                      with_reducible refine hK _ ?_
                      clear hK K
                      with_reducible refine wpQuiet_do (by kernel_rfl) (fun K hK => ?_)
                      go_simp
                      with_reducible refine hK _ ?_
                      clear hK K
                      with_reducible refine wpQuiet_do (by kernel_rfl) (fun K hK => ?_)
                      go_simp
                      with_reducible refine hK _ ?_
                      clear hK K
                      with_reducible refine wpQuiet_do (by kernel_rfl) (fun K hK => ?_)
                      go_simp
                      with_reducible refine hK _ ?_
                      clear hK K
                      with_reducible refine wpQuiet_do (by kernel_rfl) (fun K hK => ?_)
                      go_simp
                      with_reducible refine hK _ ?_
                      clear hK K
                      with_reducible refine wpQuiet_do (by kernel_rfl) (fun K hK => ?_)
                      go_simp
                      apply Exists.intro
                      refine ⟨fun _ => ?_, hK _ ?_⟩
                      · with_reducible exact cT _ _
                      clear hK K
                      with_reducible refine wpQuiet_do (by kernel_rfl) (fun K hK => ?_)
                      go_simp
                      with_reducible refine hK _ ?_
                      clear hK K
                      with_reducible refine wpQuiet_do (by kernel_rfl) (fun K hK => ?_)
                      go_simp
                      with_reducible refine hK _ ?_
                      clear hK K
                      with_reducible refine wpQuiet_do (by kernel_rfl) (fun K hK => ?_)
                      go_simp
                      with_reducible refine hK _ ?_
                      clear hK K
                      with_reducible refine wpQuiet_do (by kernel_rfl) (fun K hK => ?_)
                      go_simp
                      with_reducible refine hK _ ?_
                      clear hK K
                      with_reducible refine wpQuiet_do (by kernel_rfl) (fun K hK => ?_)
                      go_simp
                      with_reducible refine hK _ ?_
                      clear hK K
                      with_reducible refine wpQuiet_do (by kernel_rfl) (fun K hK => ?_)
                      go_simp
                      with_reducible refine hK _ ?_
                      clear hK K
                      with_reducible refine wpQuiet_do (by kernel_rfl) (fun K hK => ?_)
                      go_simp
                      with_reducible refine hK _ ?_
                      clear hK K
                      with_reducible refine wpQuiet_do (by kernel_rfl) (fun K hK => ?_)
                      go_simp
                      with_reducible refine hK _ ?_
                      clear hK K
                      with_reducible refine wpQuiet_do (by kernel_rfl) (fun K hK => ?_)
                      go_simp
                      with_reducible refine hK _ ?_
                      clear hK K
                      with_reducible refine wpQuiet_do (by kernel_rfl) (fun K hK => ?_)
                      go_simp
                      with_reducible refine hK _ ?_
                      clear hK K
                      with_reducible refine wpQuiet_do (by kernel_rfl) (fun K hK => ?_)
                      go_simp
                      with_reducible refine hK _ ?_
                      clear hK K
                      with_reducible refine wpQuiet_do (by kernel_rfl) (fun K hK => ?_)
                      go_simp
                      with_reducible refine hK _ ?_
                      clear hK K
                      with_reducible refine wpQuiet_do (by kernel_rfl) (fun K hK => ?_)
                      go_simp
                      with_reducible refine hK _ ?_
                      clear hK K
                      with_reducible refine wpQuiet_do (by kernel_rfl) (fun K hK => ?_)
                      go_simp
                      with_reducible refine hK _ ?_
                      clear hK K
                      with_reducible refine wpQuiet_do (by kernel_rfl) (fun K hK => ?_)
                      go_simp
                      with_reducible refine hK _ ?_
                      clear hK K
                      with_reducible refine wpQuiet_do (by kernel_rfl) (fun K hK => ?_)
                      go_simp
                      with_reducible refine hK _ ?_
                      clear hK K
                      with_reducible refine wpQuiet_do (by kernel_rfl) (fun K hK => ?_)
                      go_simp
                      with_reducible refine hK _ ?_
                      clear hK K
                      refine wpQuiet_nil ?_
                      intro _ hw'
                      obtain ⟨⟨dq, osq⟩, hw''⟩ := hw'
                      subst hw''
                      have HWQ := Lib.hid (below_regrown u dq osq)
                      generalize Sort.grow (redrawn u dq) osq = W at *
                      have HTHW := Lib.hid (ownsRow_b2 HTHU.out HWQ.out)
                      have hw4 := Nat.le_trans HSU.out HWQ.out.size
                      have w1v : W.cell? ⟨tb, 0, none⟩ = some (.int .i64 (a1 : Int)) := (HWQ.out.cell (p := ⟨tb, 0, none⟩) htbu).trans v0
                      have w2v : W.cell? ⟨tb, 1, none⟩ = some (.int .i64 (a2 : Int)) := (HWQ.out.cell (p := ⟨tb, 1, none⟩) htbu).trans v1
                      clear J0 J1 J2 J3 J4 JF3 JF4 JL k0 k3 kv0 kv1 kd0 kd1 kd2 kd3 kd4 kc cT d0 d1 d2 d3 d4 hcr0 v0 v1
                      go_wp2_with (at_builtin; refine wpList_append_own _ rfl _ _ 86 rfl w4.heap.size 88 it (.agg #[.int .i64 0, .int .i64 0]) 2 16 Tryd.underlying86 hit htz0 htz1 htz2 rfl (by decide) _ _ _ rfl (HTHW.out.alloc _) ⟨W.heap.size, 0, none⟩ 1 1 [.int .i64 ((a1 : Int) + 1), .int .i64 (a2 : Int)] rfl rfl (cell_two_new _ _ _ _) (fun y hy => by simp at hy; rcases hy with rfl | rfl <;> rfl) (by unfold maxLen; omega) (by omega) (by simp; omega) ?_; intro v2 w5 hown2 hgr2 hnil2; clear hnil2; obtain ⟨a2', c2', rfl⟩ := ownsTh_slice hown2; have HO2 := Lib.hid hown2; have HG2 := Lib.hid hgr2; clear hown2 hgr2)
                      have hlow : ∀ k, (Value.slice xa m xc).ownBlock = some k → w4.heap.size ≤ k := fun k e => (HTHW.out.lt k e).1
                      exact ⟨⟨k + 1, by omega, by go_num, by rw [HNX.out, thC_snoc, List.length_append, HM.out]; exact HO2.out, Below.grown ((HBU4.out.trans (HWQ.out.mono HSU.out)).alloc hw4 _) HG2.out (by simp; omega) hlow⟩, by simp [intOf]; omega⟩
                    · have q2 : decide ((a2 : Int) ≤ gx) = false := decide_eq_false hga
                      have HNX := Lib.hid (show onT (goOn (valsOf Q) R L p (gx, gy)) (A.take (k + 1)) = onT (goOn (valsOf Q) R L p (gx, gy)) (A.take k) by rw [HTK.out, HGN.out]; simp; omega)
                      go_wp2
                      refine wp_region_quiet_below (by kernel_rfl) (by kernel_rfl) ?_
                      with_reducible refine wpQuiet_do (by kernel_rfl) (fun K hK => ?_)
                      go_simp
                      with_reducible refine hK _ ?_
                      clear hK K
                      with_reducible refine wpQuiet_do (by kernel_rfl) (fun K hK => ?_)
                      go_simp
                      with_reducible refine hK _ ?_
                      clear hK K
                      with_reducible refine wpQuiet_do (by kernel_rfl) (fun K hK => ?_)
                      go_simp
                      with_reducible refine hK _ ?_
                      clear hK K
                      with_reducible refine wpQuiet_do (by kernel_rfl) (fun K hK => ?_)
                      go_simp
                      with_reducible refine hK _ ?_
                      clear hK K
                      with_reducible refine wpQuiet_do (by kernel_rfl) (fun K hK => ?_)
                      go_simp
                      with_reducible refine hK _ ?_
                      clear hK K
                      with_reducible refine wpQuiet_do (by kernel_rfl) (fun K hK => ?_)
                      go_simp
                      with_reducible refine hK _ ?_
                      clear hK K
                      with_reducible refine wpQuiet_do (by kernel_rfl) (fun K hK => ?_)
                      go_simp
                      with_reducible refine hK _ ?_
                      clear hK K
                      with_reducible refine wpQuiet_do (by kernel_rfl) (fun K hK => ?_)
                      go_simp
                      with_reducible refine hK _ ?_
                      clear hK K
                      with_reducible refine wpQuiet_do (by kernel_rfl) (fun K hK => ?_)
                      go_simp
                      with_reducible refine hK _ ?_
                      clear hK K
                      with_reducible refine wpQuiet_do (by kernel_rfl) (fun K hK => ?_)
                      go_simp
                      with_reducible refine hK _ ?_
                      clear hK K
                      with_reducible refine wpQuiet_do (by kernel_rfl) (fun K hK => ?_)
                      go_simp
                      with_reducible refine hK _ ?_
                      clear hK K
                      with_reducible refine wpQuiet_do (by kernel_rfl) (fun K hK => ?_)
                      go_simp
                      with_reducible refine hK _ ?_
                      clear hK K
                      with_reducible refine wpQuiet_do (by kernel_rfl) (fun K hK => ?_)
                      go_simp
                      with_reducible refine hK _ ?_
                      clear hK K
                      with_reducible refine wpQuiet_do (by kernel_rfl) (fun K hK => ?_)
                      go_simp
                      with_reducible refine hK _ ?_
                      clear hK K
                      with_reducible refine wpQuiet_do (by kernel_rfl) (fun K hK => ?_)
                      go_simp
                      with_reducible refine hK _ ?_
                      clear hK K
                      with_reducible refine wpQuiet_do (by kernel_rfl) (fun K hK => ?_)
                      go_simp
                      with_reducible refine hK _ ?_
                      clear hK K
                      with_reducible refine wpQuiet_do (by kernel_rfl) (fun K hK => ?_)
                      go_simp
                      with_reducible refine hK _ ?_
                      clear hK K
                      with_reducible refine wpQuiet_do (by kernel_rfl) (fun K hK => ?_)
                      go_simp
                      with_reducible refine hK _ ?_
                      clear hK K
                      with_reducible refine wpQuiet_do (by kernel_rfl) (fun K hK => ?_)
                      go_simp
                      apply Exists.intro
                      refine ⟨fun _ => ?_, hK _ ?_⟩
                      · with_reducible exact cT _ _
                      clear hK K
                      with_reducible refine wpQuiet_do (by kernel_rfl) (fun K hK => ?_)
                      go_simp
                      with_reducible refine hK _ ?_
                      clear hK K
                      with_reducible refine wpQuiet_do (by kernel_rfl) (fun K hK => ?_)
                      go_simp
                      with_reducible refine hK _ ?_
                      clear hK K
                      with_reducible refine wpQuiet_do (by kernel_rfl) (fun K hK => ?_)
                      go_simp
                      with_reducible refine hK _ ?_
                      clear hK K
                      with_reducible refine wpQuiet_do (by kernel_rfl) (fun K hK => ?_)
                      go_simp
                      with_reducible refine hK _ ?_
                      clear hK K
                      with_reducible refine wpQuiet_do (by kernel_rfl) (fun K hK => ?_)
                      go_simp
                      with_reducible refine hK _ ?_
                      clear hK K
                      with_reducible refine wpQuiet_do (by kernel_rfl) (fun K hK => ?_)
                      go_simp
                      with_reducible refine hK _ ?_
                      clear hK K
                      with_reducible refine wpQuiet_do (by kernel_rfl) (fun K hK => ?_)
                      go_simp
                      with_reducible refine hK _ ?_
                      clear hK K
                      with_reducible refine wpQuiet_do (by kernel_rfl) (fun K hK => ?_)
                      go_simp
                      with_reducible refine hK _ ?_
                      clear hK K
                      with_reducible refine wpQuiet_do (by kernel_rfl) (fun K hK => ?_)
                      go_simp
                      with_reducible refine hK _ ?_
                      clear hK K
                      with_reducible refine wpQuiet_do (by kernel_rfl) (fun K hK => ?_)
                      go_simp
                      with_reducible refine hK _ ?_
                      clear hK K
                      with_reducible refine wpQuiet_do (by kernel_rfl) (fun K hK => ?_)
                      go_simp
                      with_reducible refine hK _ ?_
                      clear hK K
                      with_reducible refine wpQuiet_do (by kernel_rfl) (fun K hK => ?_)
                      go_simp
                      with_reducible refine hK _ ?_
                      clear hK K
                      with_reducible refine wpQuiet_do (by kernel_rfl) (fun K hK => ?_)
                      go_simp
                      with_reducible refine hK _ ?_
                      clear hK K
                      with_reducible refine wpQuiet_do (by kernel_rfl) (fun K hK => ?_)
                      go_simp
                      with_reducible refine hK _ ?_
                      clear hK K
                      with_reducible refine wpQuiet_do (by kernel_rfl) (fun K hK => ?_)
                      go_simp
                      with_reducible refine hK _ ?_
                      clear hK K
                      with_reducible refine wpQuiet_do (by kernel_rfl) (fun K hK => ?_)
                      go_simp
                      with_reducible refine hK _ ?_
                      clear hK K
                      with_reducible refine wpQuiet_do (by kernel_rfl) (fun K hK => ?_)
                      go_simp
                      with_reducible refine hK _ ?_
                      clear hK K
                      refine wpQuiet_nil ?_
                      intro _ hw'
                      obtain ⟨⟨dq, osq⟩, hw''⟩ := hw'
                      subst hw''
                      have HWQ := Lib.hid (below_regrown u dq osq)
                      generalize Sort.grow (redrawn u dq) osq = W at *
                      go_wp2
                      exact ⟨⟨k + 1, by omega, by go_num, by rw [HNX.out, HM.out]; exact ownsRow_b2 HTHU.out HWQ.out, HBU4.out.trans (HWQ.out.mono HSU.out)⟩, by simp [intOf]; omega⟩

              · have hplI : ¬ (p : Int) < (L : Int) := by omega
                have HGN := Lib.hid (show goOn (valsOf Q) R L p (gx, gy) (a1, a2) = false by unfold goOn; rw [decide_eq_false hpl]; rfl)
                have HNX := Lib.hid (show onT (goOn (valsOf Q) R L p (gx, gy)) (A.take (k + 1)) = onT (goOn (valsOf Q) R L p (gx, gy)) (A.take k) by rw [HTK.out, HGN.out]; simp)
                clear hcq hva hbd1 hfine hrd
                go_wp2
                refine wp_region_quiet_below (by kernel_rfl) (by kernel_rfl) ?_
                with_reducible refine wpQuiet_do (by kernel_rfl) (fun K hK => ?_)
                go_simp
                with_reducible refine hK _ ?_
                clear hK K
                with_reducible refine wpQuiet_do (by kernel_rfl) (fun K hK => ?_)
                go_simp
                with_reducible refine hK _ ?_
                clear hK K
                with_reducible refine wpQuiet_do (by kernel_rfl) (fun K hK => ?_)
                go_simp
                with_reducible refine hK _ ?_
                clear hK K
                with_reducible refine wpQuiet_do (by kernel_rfl) (fun K hK => ?_)
                go_simp
                with_reducible refine hK _ ?_
                clear hK K
                with_reducible refine wpQuiet_do (by kernel_rfl) (fun K hK => ?_)
                go_simp
                with_reducible refine hK _ ?_
                clear hK K
                with_reducible refine wpQuiet_skip (by kernel_rfl) ?_
                simp only [Act.put, List.setIfInBounds_toArray, List.set_cons_zero, List.set_cons_succ]
                with_reducible refine wpQuiet_skip (by kernel_rfl) ?_
                simp only [Act.put, List.setIfInBounds_toArray, List.set_cons_zero, List.set_cons_succ]
                with_reducible refine wpQuiet_skip (by kernel_rfl) ?_
                simp only [Act.put, List.setIfInBounds_toArray, List.set_cons_zero, List.set_cons_succ]
                with_reducible refine wpQuiet_skip (by kernel_rfl) ?_
                simp only [Act.put, List.setIfInBounds_toArray, List.set_cons_zero, List.set_cons_succ]
                with_reducible refine wpQuiet_skip (by kernel_rfl) ?_
                simp only [Act.put, List.setIfInBounds_toArray, List.set_cons_zero, List.set_cons_succ]
                with_reducible refine wpQuiet_skip (by kernel_rfl) ?_
                simp only [Act.put, List.setIfInBounds_toArray, List.set_cons_zero, List.set_cons_succ]
                with_reducible refine wpQuiet_skip (by kernel_rfl) ?_
                simp only [Act.put, List.setIfInBounds_toArray, List.set_cons_zero, List.set_cons_succ]
                with_reducible refine wpQuiet_skip (by kernel_rfl) ?_
                simp only [Act.put, List.setIfInBounds_toArray, List.set_cons_zero, List.set_cons_succ]
                with_reducible refine wpQuiet_skip (by kernel_rfl) ?_
                simp only [Act.put, List.setIfInBounds_toArray, List.set_cons_zero, List.set_cons_succ]
                with_reducible refine wpQuiet_skip (by kernel_rfl) ?_
                simp only [Act.put, List.setIfInBounds_toArray, List.set_cons_zero, List.set_cons_succ]
                with_reducible refine wpQuiet_skip (by kernel_rfl) ?_
                simp only [Act.put, List.setIfInBounds_toArray, List.set_cons_zero, List.set_cons_succ]
                with_reducible refine wpQuiet_skip (by kernel_rfl) ?_
                simp only [Act.put, List.setIfInBounds_toArray, List.set_cons_zero, List.set_cons_succ]
                with_reducible refine wpQuiet_skip (by kernel_rfl) ?_
                simp only [Act.put, List.setIfInBounds_toArray, List.set_cons_zero, List.set_cons_succ]
                with_reducible refine wpQuiet_skip (by kernel_rfl) ?_
                simp only [Act.put, List.setIfInBounds_toArray, List.set_cons_zero, List.set_cons_succ]
                with_reducible refine wpQuiet_do (by kernel_rfl) (fun K hK => ?_)
                go_simp
                with_reducible refine hK _ ?_
                clear hK K
                with_reducible refine wpQuiet_do (by kernel_rfl) (fun K hK => ?_)
                go_simp
                with_reducible refine hK _ ?_
                clear hK K
                with_reducible refine wpQuiet_skip (by kernel_rfl) ?_
                simp only [Act.put, List.setIfInBounds_toArray, List.set_cons_zero, List.set_cons_succ]
                with_reducible refine wpQuiet_skip (by kernel_rfl) ?_
                simp only [Act.put, List.setIfInBounds_toArray, List.set_cons_zero, List.set_cons_succ]
                with_reducible refine wpQuiet_skip (by kernel_rfl) ?_
                simp only [Act.put, List.setIfInBounds_toArray, List.set_cons_zero, List.set_cons_succ]
                with_reducible refine wpQuiet_skip (by kernel_rfl) ?_
                simp only [Act.put, List.setIfInBounds_toArray, List.set_cons_zero, List.set_cons_succ]
                with_reducible refine wpQuiet_skip (by kernel_rfl) ?_
                simp only [Act.put, List.setIfInBounds_toArray, List.set_cons_zero, List.set_cons_succ]
                with_reducible refine wpQuiet_skip (by kernel_rfl) ?_
                simp only [Act.put, List.setIfInBounds_toArray, List.set_cons_zero, List.set_cons_succ]
                with_reducible refine wpQuiet_skip (by kernel_rfl) ?_
                simp only [Act.put, List.setIfInBounds_toArray, List.set_cons_zero, List.set_cons_succ]
                with_reducible refine wpQuiet_skip (by kernel_rfl) ?_
                simp only [Act.put, List.setIfInBounds_toArray, List.set_cons_zero, List.set_cons_succ]
                with_reducible refine wpQuiet_skip (by kernel_rfl) ?_
                simp only [Act.put, List.setIfInBounds_toArray, List.set_cons_zero, List.set_cons_succ]
                with_reducible refine wpQuiet_skip (by kernel_rfl) ?_
                simp only [Act.put, List.setIfInBounds_toArray, List.set_cons_zero, List.set_cons_succ]
                with_reducible refine wpQuiet_skip (by kernel_rfl) ?_
                simp only [Act.put, List.setIfInBounds_toArray, List.set_cons_zero, List.set_cons_succ]
                with_reducible refine wpQuiet_skip (by kernel_rfl) ?_
                simp only [Act.put, List.setIfInBounds_toArray, List.set_cons_zero, List.set_cons_succ]
                with_reducible refine wpQuiet_skip (by kernel_rfl) ?_
                simp only [Act.put, List.setIfInBounds_toArray, List.set_cons_zero, List.set_cons_succ]
                with_reducible refine wpQuiet_skip (by kernel_rfl) ?_
                simp only [Act.put, List.setIfInBounds_toArray, List.set_cons_zero, List.set_cons_succ]
                with_reducible refine wpQuiet_do (by kernel_rfl) (fun K hK => ?_)
                go_simp
                with_reducible refine hK _ ?_
                clear hK K
                refine wpQuiet_nil ?_
                intro _ hw'
                obtain ⟨⟨dq, osq⟩, hw''⟩ := hw'
                subst hw''
                have HWQ := Lib.hid (below_regrown u dq osq)
                generalize Sort.grow (redrawn u dq) osq = W at *
                go_wp2
                exact ⟨⟨k + 1, by omega, by go_num, by rw [HNX.out, HM.out]; exact ownsRow_b2 HTHU.out HWQ.out, HBU4.out.trans (HWQ.out.mono HSU.out)⟩, by simp [intOf]; omega⟩
            · obtain rfl : k = A.length := by omega
              have hth2 := HTH.out
              have hm2 := HM.out
              rw [List.take_length] at hth2 hm2
              have hrl2 := HX.out.run.lt
              have HX2 := Lib.hid (show RunO w wi r sg n (.slice a n cap) (.slice sa L sc) Q L R fr (p + 1) (onT (goOn (valsOf Q) R L p (gx, gy)) A) (gx, gy) S' (.slice xa m xc) from ⟨by rw [hm2]; exact ownsRow_lo2 hth2 (by have := HSZ.out; omega), HRI.out, HC.out.mks.below HBI.out, HC.out.sle, HB4.out.trans (HBI.out.mono HB4.out.size), by
                by_cases hpl : p < L
                · rw [onT_next hpl]
                  exact CloseP.next HX.out.plain HC.out.clo hpl (fun j hj => tk_rdg hj)
                · obtain rfl : p = L := by omega
                  rw [onT_end hpl]
                  exact CloseP.stop HX.out.plain HC.out.clo, fun t ht => by
                obtain ⟨a0, h1, _, rfl⟩ := onT_mem ht
                exact rdg_lt (HBDA.out _ (HC.out.alt _ h1)) (HC.out.alt _ h1) (HC.out.clo.sound _ h1).1, by rw [hm2]; omega⟩)
              clear hth2 hm2
              go_wp2
              exact ⟨⟨p + 1, _, (gx, gy), S', by omega, by omega, by go_num, HX2.out⟩, by simp [intOf]; omega⟩
    · obtain rfl : p = L + 1 := by omega
      have HF := Lib.hid (HO.out.plain.last (by omega))
      have HBW := Lib.hid HO.out.below
      go_wp2
      go_quiet (fail)
      go_wp2
      go_ret2
      exact ⟨fx, fy, rfl, HF.out, Go.below_drewN HBW.out _⟩
end Go.Proofs.YtobpecgecopdnaaDoor

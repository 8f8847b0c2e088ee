/-
  The reference's search from one place: l07Go. Conditions: the automaton is sound, the text is short.
-/
import Derived.Test.YtobpecgecopdnaaDoorNfaCome
import Derived.Test.YtobpecgecopdnaaDoorRxDraws
import Derived.Deep.QuietTactic
namespace Go.Proofs.YtobpecgecopdnaaDoor
open Go.RowKit
set_option linter.unusedVariables false
set_option linter.unusedSimpArgs false

theorem mk_bools (n : Nat) (hn : n ≤ 1099511627776) (u : World) : (Instr.makeSlice 77 (.int .i64 (n : Int)) (.int .i64 (n : Int))).run Tryd.prog u =
      .ok (.slice (some ⟨u.heap.size, 0, none⟩) n n) (u.alloc (.cells (madeCells #[.bool false] n) 4)) := by
  obtain ⟨i0, hi, hz0, hz1, hz2⟩ := info_parts (show (Tryd.prog.info? 4).map (fun i => (i.zero, i.size, i.bytes)) = some (some (.bool false), 1, 1) by kernel_rfl)
  have h := run_make (P := Tryd.prog) u 77 4 i0 (.bool false) Tryd.underlying77 hi hz0 .i64 .i64 (n : Int) (n : Int) (by omega) (Int.le_refl _) (by rw [hz2]; omega) (by omega)
  simpa [hz1, Value.cells] using h
theorem fill_bools (w : World) (n : Nat) : Fill w (w.alloc (.cells (madeCells #[.bool false] n) 4)) w.heap.size n (fun _ => .bool false) := by
  have hF := Fill.made w w (Below.refl _ _) (madeCells #[.bool false] n) 4 (fun _ => .bool false) (fun j hj => madeCells_get _ _ _ (by simpa [size_madeCells] using hj))
  rw [size_madeCells] at hF
  exact hF
section
variable {V : List OpV} {R : List Nat} {p k : Nat} {op a b : Int} {neg : Bool} {set : List Int}
theorem tk_char (h : opAt V k = (1, a, b, neg, set)) : tkV V R p k = (a == ((R.getD p 0 : Nat) : Int)) := by unfold tkV; rw [h]; rfl
theorem tk_any (h : opAt V k = (2, a, b, neg, set)) : tkV V R p k = true := by unfold tkV; rw [h]; rfl
theorem tk_set (h : opAt V k = (3, a, b, neg, set)) : tkV V R p k = rxHas set neg ((R.getD p 0 : Nat) : Int) := by unfold tkV; rw [h]; rfl
theorem tk_none (h : opAt V k = (op, a, b, neg, set)) (h1 : op ≠ 1) (h2 : op ≠ 2) (h3 : op ≠ 3) : tkV V R p k = false := by
  unfold tkV
  rw [h]
  simp only []
  rw [if_neg h1, if_neg h2, if_neg h3]
end
theorem at_first {L f j : Nat} {suc : Nat → Nat → List Nat} {tk : Nat → Nat → Bool} (hf : f ≤ L) : At L suc tk f f j ↔ Rch suc f 0 j := by
  rw [at_pre]
  constructor
  · rintro ⟨i, h1, h2⟩
    rw [pre_self h1] at h2
    exact h2
  · intro h
    exact ⟨0, .inl ⟨rfl, rfl, hf⟩, h⟩
abbrev SU (Q : List OpQ) (L : Nat) := sucV (valsOf Q) L
abbrev TK (Q : List OpQ) (R : List Nat) := tkV (valsOf Q) R

set_option maxHeartbeats 8000000 in
set_option maxRecDepth 20000 in
theorem l07Go_any (a : Option Addr) (cap n : Nat) (Q : List OpQ) (sa : Option Addr) (sc L : Nat) (R : List Nat) (f : Nat) (w : World) (hr : OpR w a Q) (hn : Q.length = n) (hok : nfaOk (valsOf Q) = true) (hql : ∀ q ∈ Q, q.sl ≤ 1048576) (hs : RowI .i64 w sa (R.map Int.ofNat)) (hL : R.length = L) (hl : L ≤ 1000) (hf : f ≤ L) :
    Calls Tryd.prog 25 #[.agg #[.slice a n cap], .slice sa L sc, .int .i64 (f : Int)] w fun e w' => ∃ x : Int, e = .returned (.int .i64 x) ∧ GoP L (SU Q L) (TK Q R) (n - 1) f x ∧ Below w.heap.size w w' := by
  obtain ⟨hn1, hn4⟩ := nfaOk_len hok
  rw [valsOf_len, hn] at hn1 hn4
  have hbd : ∀ i, i < n → OpBd n i (opAt (valsOf Q) i) := fun i hi => opBd_of (by rw [valsOf_len]; exact hn) hok hi
  have HR := Lib.hid hr
  have HN := Lib.hid hn
  have HQL := Lib.hid hql
  have HS := Lib.hid hs
  have HRL := Lib.hid hL
  have HBDA := Lib.hid hbd
  obtain ⟨u, hu, hsz, hbu, hc0⟩ := nfa_box w (.slice a n cap) 32
  obtain ⟨u1, hu1⟩ : ∃ u1, u.alloc (.cells (madeCells #[.bool false] n) 4) = u1 := ⟨_, rfl⟩
  have hfill := fill_bools u n
  rw [hu1] at hfill
  have hmk := mk_bools n (by omega)
  have hc1 : u1.cell? ⟨w.heap.size, 0, none⟩ = some (.slice a n cap) := by rw [hfill.below.cell (p := ⟨w.heap.size, 0, none⟩) (by show w.heap.size < _; omega)]; exact hc0
  have HU := Lib.hid hbu
  have HSZ := Lib.hid hsz
  have HCOME := Lib.hid (show Calls Tryd.prog 44 #[.agg #[.slice a n cap], .int .i64 0, .int .i64 (f : Int), .int .i64 (L : Int), .slice (some ⟨u.heap.size, 0, none⟩) n n] u1 fun e w' => e = .returned (.tuple #[]) ∧ ∃ M : Nat → Bool, Marks w' u.heap.size n (fun j => .bool (M j)) ∧ Mostly u.heap.size u1 w' ∧
      (∀ j, M j = true ↔ false = true ∨ Rch (SU Q L) f 0 j) ∧ ∀ j, M j = true → ∀ k ∈ SU Q L f j, M k = true from
    l07Come_any a cap n Q u.heap.size 0 f L (fun _ => false) w u1 hr (hbu.trans (hfill.below.mono hbu.size)) hn hbd hn4 (by omega) (Marks.of_fill hfill) hbu.size (fun j hj => by cases hj))
  have HF1 := Lib.hid hfill.below
  have hszu1 := hfill.below.size
  clear hr hn hql hs hL hbd hok hbu hfill hsz
  go_enter Tryd.func25, Tryd.ntmps25
  go_wp2_with fail
  refine HCOME.out.mono ?_
  rintro e wA ⟨rfl, M1, hm1, hmo1, hiff1, _⟩
  have HM1 := Lib.hid hm1
  have HMO1 := Lib.hid (HF1.out.trans (hmo1.below (B := u.heap.size) (Nat.le_refl _) hszu1))
  have HI1 := Lib.hid (show ∀ j, M1 j = true ↔ At L (SU Q L) (TK Q R) f f j from fun j => by rw [at_first hf, hiff1 j]; simp)
  clear hm1 hmo1 hiff1
  go_wp2
  go_loopw [7, 8, 9] (fun bv hv pv wr => ∃ (p hb : Nat) (M : Nat → Bool) (x : Int), bv = .int .i64 x ∧ hv = .slice (some ⟨hb, 0, none⟩) n n ∧ pv = .int .i64 (p : Int) ∧ f ≤ p ∧ p ≤ L ∧ GoUp L (SU Q L) (TK Q R) (n - 1) f p x ∧ Marks wr hb n (fun j => .bool (M j)) ∧ (∀ j, M j = true ↔ At L (SU Q L) (TK Q R) f p j) ∧ u.heap.size ≤ hb ∧ Below u.heap.size u wr) (fun _ _ pv _ => L + 1 - (intOf pv).toNat)
  case atStart => exact ⟨f, _, M1, -1, rfl, rfl, rfl, Nat.le_refl _, hf, goUp_start, HM1.out, HI1.out, Nat.le_refl _, HMO1.out⟩
  case round =>
    obtain ⟨p, hb, M, x, rfl, rfl, rfl, hfp, hpL, hup, hmk2, hat, hhb, hbw⟩ := hrel
    rename World => wr
    have HUP := Lib.hid hup
    have HMK := Lib.hid hmk2
    have HAT := Lib.hid hat
    have HBW := Lib.hid hbw
    have hszr := hbw.size
    have hbl := hmk2.lt
    have hbx : wr.cell? ⟨w.heap.size, 0, none⟩ = some (.slice a n cap) := by rw [hbw.cell (p := ⟨w.heap.size, 0, none⟩) (by show w.heap.size < _; have := HSZ.out; omega)]; exact hc0
    have hcf := hmk2.cell (n - 1) (by omega)
    have hnn : (n : Int) - 1 = ((n - 1 : Nat) : Int) := by omega
    have HXX : Hid (∃ y, GoUp L (SU Q L) (TK Q R) (n - 1) f (p + 1) y ∧ y = if M (n - 1) then (p : Int) else x) := Lib.hid (by
      cases hv : M (n - 1)
      · exact ⟨x, hup.miss (fun h => by rw [(hat (n - 1)).2 h] at hv; cases hv), by simp⟩
      · exact ⟨(p : Int), GoUp.hit (x := x) ((hat _).1 hv), by simp⟩)
    clear hup hmk2 hat hbw hc0 hc1
    cases hfit : M (n - 1)
    case false =>
      rw [hfit] at hcf
      have HY := Lib.hid (show GoUp L (SU Q L) (TK Q R) (n - 1) f (p + 1) x from by obtain ⟨y, h1, h2⟩ := HXX.out; rw [hfit] at h2; simp at h2; rw [← h2]; exact h1)
      clear HXX
      by_cases hend : p = L
      · have hpe : ((p : Int) == (L : Int)) = true := by rw [beq_iff_eq]; omega
        have HG := Lib.hid (HY.out.last (by omega))
        clear hend
        go_wp2
        go_ret
        exact ⟨_, rfl, HG.out, HU.out.trans (HBW.out.mono HU.out.size)⟩
      have hpe : ((p : Int) == (L : Int)) = false := by rw [beq_eq_false_iff_ne]; omega
      obtain ⟨w1, hw1⟩ : ∃ w1, wr.alloc (.cells (madeCells #[.bool false] n) 4) = w1 := ⟨_, rfl⟩
      have hfl := fill_bools wr n
      rw [hw1] at hfl
      have HFL := Lib.hid hfl
      have hszw := hfl.hi
      have HM1 := Lib.hid (HMK.out.below hfl.below)
      have HBW1 := Lib.hid (HBW.out.trans (hfl.below.mono hszr))
      clear hfl
      go_wp2_with fail
      go_loopw [11, 12] (fun av kv wi => ∃ (k : Nat) (N : Nat → Bool) (any : Bool), k ≤ n ∧ av = .bool any ∧ kv = .int .i64 (k : Int) ∧ NextUp L (SU Q L) (TK Q R) f p k N any ∧ Marks wi wr.heap.size n (fun j => .bool (N j)) ∧ Mostly wr.heap.size w1 wi) (fun _ kv _ => n - (intOf kv).toNat)
      case atStart => exact ⟨0, _, _, Nat.zero_le _, rfl, rfl, nextUp_zero, Marks.of_fill HFL.out, Mostly.refl _ _⟩
      case round =>
        obtain ⟨k, N, any, hk, rfl, rfl, hnx, hmi, hmo⟩ := hrel
        rename World => wi
        have HNX := Lib.hid hnx
        have HMI := Lib.hid hmi
        have HMO := Lib.hid hmo
        have hszi := hmo.size
        have hbxi : wi.cell? ⟨w.heap.size, 0, none⟩ = some (.slice a n cap) := by rw [hmo.cell (by have := HSZ.out; omega) (by have := HSZ.out; omega), HFL.out.below.cell (p := ⟨w.heap.size, 0, none⟩) (by show w.heap.size < _; have := HSZ.out; omega)]; exact hbx
        have hbwi : Below w.heap.size w wi := HU.out.trans ((HBW1.out.mono HU.out.size).trans (hmo.below (by have := HSZ.out; omega) (by have := HSZ.out; omega)))
        have HBWI := Lib.hid hbwi
        clear hnx hmi
        by_cases hlt : k < n
        · have hkQ : k < Q.length := by rw [HN.out]; exact hlt
          obtain ⟨hr1, hr2⟩ := HR.out
          rcases hr1 with h9 | ⟨b, off, rfl, hbl2, hcc⟩
          · rw [h9] at hkQ; exact absurd hkQ (Nat.not_lt_zero _)
          have hcq := (hcc k hkQ).below hbwi hbl2
          have hfine := (hr2 _ (List.getElem_mem hkQ)).below hbwi
          have hsl := HQL.out _ (List.getElem_mem hkQ)
          have hva : opAt (valsOf Q) k = (Q[k]).val := valsOf_get hkQ
          have HBD := Lib.hid (HBDA.out k hlt)
          have hpR : p < R.length := by rw [HRL.out]; omega
          have hpL2 : p < L := by omega
          rcases HS.out with h8 | ⟨b2, off2, rfl, hbl3, hcr⟩
          · rw [List.map_eq_nil_iff] at h8; rw [h8] at hpR; exact absurd hpR (Nat.not_lt_zero _)
          have hcr0 := hcr p (by rw [List.length_map]; exact hpR)
          have hgd : (R.map Int.ofNat).getD p 0 = ((R.getD p 0 : Nat) : Int) := by
            rw [List.getD_eq_getElem?_getD, List.getElem?_map, List.getElem?_eq_getElem hpR, List.getD_eq_getElem?_getD, List.getElem?_eq_getElem hpR]
            rfl
          rw [hgd, ← hbwi.cell (p := ⟨b2, off2 + p, none⟩) hbl3] at hcr0
          have hch := hmo.cell (p := wr.heap.size) (b := hb) (o := k) (by omega) HM1.out.lt
          rw [HM1.out.cell k hlt] at hch
          generalize Q[k] = q at *
          obtain ⟨op, qa, qb, neg, sa, sl, sc', set⟩ := q
          obtain ⟨d0, d1, d2, d3, d4⟩ := hcq
          simp only [] at d0 d1 d2 d3 d4 hsl
          have HVA := Lib.hid (show opAt (valsOf Q) k = (op, qa, qb, neg, set) from hva)
          obtain ⟨u5, hu5, s5, b5, ⟨c0, c1, c2, c3, c4⟩, hf5⟩ := laid5 wi (.int .i64 op) (.int .i64 qa) (.int .i64 qb) (.bool neg) (.slice sa sl sc') 76
          have hsl2 : set.length = sl := hfine.2.1
          have HF5 := Lib.hid (show RowI .i64 u5 sa set from hfine.1.below b5)
          rw [← b5.cell (p := ⟨hb, k, none⟩) (show hb < wi.heap.size by omega)] at hch
          have hbox5 : u5.cell? ⟨w.heap.size, 0, none⟩ = some (.slice (some ⟨b, off, none⟩) n cap) := by rw [b5.cell (p := ⟨w.heap.size, 0, none⟩) (by show w.heap.size < _; have := HSZ.out; omega)]; exact hbxi
          rw [← b5.cell (p := ⟨b2, off2 + p, none⟩) (Nat.lt_of_lt_of_le hbl3 hbwi.size)] at hcr0
          obtain ⟨c, hcc0⟩ : ∃ c, R.getD p 0 = c := ⟨_, rfl⟩
          rw [hcc0] at hcr0
          have HC := Lib.hid hcc0
          have HMK5 := Lib.hid (HMI.out.below b5)
          have HMO5 := Lib.hid (hmo.call b5)
          have HB5 := Lib.hid (hbwi.trans (b5.mono hbwi.size))
          have hwu5 := HMO5.out.size
          have hRX := fun d => specRxHas_draws sa sc' set neg (c : Int) (u5.drewN d) (HF5.out.below (Go.below_drewN (Below.refl _ _) d)) (by omega)
          rw [hsl2] at hRX
          have HRX := Lib.hid hRX
          have HCM := Lib.hid (fun (hk1 : k + 1 < n) d => (show Calls Tryd.prog 44 #[.agg #[.slice (some ⟨b, off, none⟩) n cap], .int .i64 ((k : Int) + 1), .int .i64 ((p : Int) + 1), .int .i64 (L : Int), .slice (some ⟨wr.heap.size, 0, none⟩) n n] (u5.drewN d) fun e w' => e = .returned (.tuple #[]) ∧ ∃ M : Nat → Bool, Marks w' wr.heap.size n (fun j => .bool (M j)) ∧ Mostly wr.heap.size (u5.drewN d) w' ∧
              (∀ j, M j = true ↔ N j = true ∨ Rch (SU Q L) (p + 1) (k + 1) j) ∧ ∀ j, M j = true → ∀ k ∈ SU Q L (p + 1) j, M k = true from
            l07Come_any _ cap n Q wr.heap.size (k + 1) (p + 1) L N w (u5.drewN d) HR.out (Go.below_drewN HB5.out d) HN.out HBDA.out hn4 hk1 (HMK5.out.below (Go.below_drewN (Below.refl _ _) d)) (by have := HSZ.out; omega) HNX.out.2.1))
          have hk1 : k + 1 < n ∨ TK Q R p k = false := by
            cases ht : TK Q R p k
            · exact .inr rfl
            · exact .inl (rdg_lt HBD.out hlt (tk_rdg ht))
          have HK1 := Lib.hid hk1
          have HA := Lib.hid (HAT.out k)
          clear s5 hva hcc hr2 hfine b5 hf5 hkQ hcr hgd hcc0 hpR hRX hk1 hmo hbwi
          cases hMk : M k
          · rw [hMk] at hch
            have HMS := Lib.hid (HNX.out.miss (k := k) (fun h => by have := HA.out.2 h.1; rw [hMk] at this; cases this))
            go_wp2
            go_quiet (fail)
            go_wp2
            exact ⟨⟨k + 1, N, any, by omega, rfl, by go_num, HMS.out, HMK5.out.below (Go.below_drewN (Below.refl _ _) _), HMO5.out.call (Go.below_drewN (Below.refl _ _) _)⟩, by simp [intOf]; omega⟩
          rw [hMk] at hch
          by_cases o2 : op = 2
          · subst o2
            have HTK : Hid (TK Q R p k = true) := Lib.hid (tk_any HVA.out)
            have hk1 : k + 1 < n := by rcases HK1.out with h | h; exact h; rw [HTK.out] at h; cases h
            have HCC := Lib.hid (fun d => HCM.out hk1 d)
            go_wp2
            go_quiet (fail)
            go_wp2_with fail
            refine (HCC.out _).mono ?_
            rintro e w2 ⟨rfl, M', hm2, hmo2, hi2, hcl2⟩
            have HMS := Lib.hid (HNX.out.hit (HA.out.1 hMk) HTK.out hi2 hcl2)
            have HM2 := Lib.hid hm2
            have HMO2 := Lib.hid (HMO5.out.trans ((Mostly.of_below (Go.below_drewN (Below.refl _ _) _)).trans hmo2))
            clear hm2 hmo2 hi2 hcl2
            go_wp2
            exact ⟨⟨k + 1, M', true, by omega, rfl, by go_num, HMS.out, HM2.out, HMO2.out⟩, by simp [intOf]; omega⟩
          by_cases o1 : op = 1
          · subst o1
            have HTC : Hid (TK Q R p k = (qa == (c : Int))) := Lib.hid (by rw [← HC.out]; exact tk_char HVA.out)
            cases hqc : (qa == (c : Int))
            · have HMS := Lib.hid (HNX.out.miss (k := k) (fun h => by have := h.2; rw [HTC.out, hqc] at this; cases this))
              go_wp2
              go_quiet (fail)
              go_wp2
              exact ⟨⟨k + 1, N, any, by omega, rfl, by go_num, HMS.out, HMK5.out.below (Go.below_drewN (Below.refl _ _) _), HMO5.out.call (Go.below_drewN (Below.refl _ _) _)⟩, by simp [intOf]; omega⟩
            · have HTK : Hid (TK Q R p k = true) := Lib.hid (by rw [HTC.out, hqc])
              have hk1 : k + 1 < n := by rcases HK1.out with h | h; exact h; rw [HTK.out] at h; cases h
              have HCC := Lib.hid (fun d => HCM.out hk1 d)
              go_wp2
              go_quiet (fail)
              go_wp2_with fail
              refine (HCC.out _).mono ?_
              rintro e w2 ⟨rfl, M', hm2, hmo2, hi2, hcl2⟩
              have HMS := Lib.hid (HNX.out.hit (HA.out.1 hMk) HTK.out hi2 hcl2)
              have HM2 := Lib.hid hm2
              have HMO2 := Lib.hid (HMO5.out.trans ((Mostly.of_below (Go.below_drewN (Below.refl _ _) _)).trans hmo2))
              clear hm2 hmo2 hi2 hcl2
              go_wp2
              exact ⟨⟨k + 1, M', true, by omega, rfl, by go_num, HMS.out, HM2.out, HMO2.out⟩, by simp [intOf]; omega⟩
          by_cases o3 : op = 3
          · subst o3
            have HTC : Hid (TK Q R p k = rxHas set neg (c : Int)) := Lib.hid (by rw [← HC.out]; exact tk_set HVA.out)
            cases hqc : rxHas set neg (c : Int)
            · rw [hqc] at HRX
              have HMS := Lib.hid (HNX.out.miss (k := k) (fun h => by have := h.2; rw [HTC.out, hqc] at this; cases this))
              go_wp2
              go_quiet ((go_at_call 45; exact Calls.quiet_of (HRX.out _)))
              go_wp2
              exact ⟨⟨k + 1, N, any, by omega, rfl, by go_num, HMS.out, HMK5.out.below (Go.below_drewN (Below.refl _ _) _), HMO5.out.call (Go.below_drewN (Below.refl _ _) _)⟩, by simp [intOf]; omega⟩
            · rw [hqc] at HRX
              have HTK : Hid (TK Q R p k = true) := Lib.hid (by rw [HTC.out, hqc])
              have hk1 : k + 1 < n := by rcases HK1.out with h | h; exact h; rw [HTK.out] at h; cases h
              have HCC := Lib.hid (fun d => HCM.out hk1 d)
              go_wp2
              go_quiet ((go_at_call 45; exact Calls.quiet_of (HRX.out _)))
              go_wp2_with fail
              refine (HCC.out _).mono ?_
              rintro e w2 ⟨rfl, M', hm2, hmo2, hi2, hcl2⟩
              have HMS := Lib.hid (HNX.out.hit (HA.out.1 hMk) HTK.out hi2 hcl2)
              have HM2 := Lib.hid hm2
              have HMO2 := Lib.hid (HMO5.out.trans ((Mostly.of_below (Go.below_drewN (Below.refl _ _) _)).trans hmo2))
              clear hm2 hmo2 hi2 hcl2
              go_wp2
              exact ⟨⟨k + 1, M', true, by omega, rfl, by go_num, HMS.out, HM2.out, HMO2.out⟩, by simp [intOf]; omega⟩
          have HMS := Lib.hid (HNX.out.miss (k := k) (fun h => by have := h.2; rw [show TK Q R p k = false from tk_none HVA.out o1 o2 o3] at this; cases this))
          go_wp2
          go_quiet (fail)
          go_wp2
          exact ⟨⟨k + 1, N, any, by omega, rfl, by go_num, HMS.out, HMK5.out.below (Go.below_drewN (Below.refl _ _) _), HMO5.out.call (Go.below_drewN (Below.refl _ _) _)⟩, by simp [intOf]; omega⟩
        · obtain rfl : k = n := by omega
          obtain ⟨f1, f2⟩ := HNX.out.full hfp (by omega) (fun i hi => at_lt HBDA.out hn1 hi)
          have F1 := Lib.hid f1
          have F2 := Lib.hid f2
          clear f1 f2 hmo
          cases any
          · have HG := Lib.hid (HY.out.all (fun q hq => F2.out rfl q _ hq))
            go_wp2
            go_ret
            exact ⟨_, rfl, HG.out, HBWI.out⟩
          · go_wp2
            exact ⟨⟨p + 1, _, N, _, rfl, rfl, by go_num, by omega, by omega, HY.out, HMI.out, F1.out, by omega, HBW1.out.trans (HMO.out.below hszr (by omega))⟩, by simp [intOf]; omega⟩
    case true =>
      rw [hfit] at hcf
      have HY := Lib.hid (show GoUp L (SU Q L) (TK Q R) (n - 1) f (p + 1) (p : Int) from by obtain ⟨y, h1, h2⟩ := HXX.out; rw [hfit] at h2; simp at h2; rw [← h2]; exact h1)
      clear HXX
      by_cases hend : p = L
      · have hpe : ((p : Int) == (L : Int)) = true := by rw [beq_iff_eq]; omega
        have HG := Lib.hid (HY.out.last (by omega))
        clear hend
        go_wp2
        go_ret
        exact ⟨_, rfl, HG.out, HU.out.trans (HBW.out.mono HU.out.size)⟩
      have hpe : ((p : Int) == (L : Int)) = false := by rw [beq_eq_false_iff_ne]; omega
      obtain ⟨w1, hw1⟩ : ∃ w1, wr.alloc (.cells (madeCells #[.bool false] n) 4) = w1 := ⟨_, rfl⟩
      have hfl := fill_bools wr n
      rw [hw1] at hfl
      have HFL := Lib.hid hfl
      have hszw := hfl.hi
      have HM1 := Lib.hid (HMK.out.below hfl.below)
      have HBW1 := Lib.hid (HBW.out.trans (hfl.below.mono hszr))
      clear hfl
      go_wp2_with fail
      go_loopw [11, 12] (fun av kv wi => ∃ (k : Nat) (N : Nat → Bool) (any : Bool), k ≤ n ∧ av = .bool any ∧ kv = .int .i64 (k : Int) ∧ NextUp L (SU Q L) (TK Q R) f p k N any ∧ Marks wi wr.heap.size n (fun j => .bool (N j)) ∧ Mostly wr.heap.size w1 wi) (fun _ kv _ => n - (intOf kv).toNat)
      case atStart => exact ⟨0, _, _, Nat.zero_le _, rfl, rfl, nextUp_zero, Marks.of_fill HFL.out, Mostly.refl _ _⟩
      case round =>
        obtain ⟨k, N, any, hk, rfl, rfl, hnx, hmi, hmo⟩ := hrel
        rename World => wi
        have HNX := Lib.hid hnx
        have HMI := Lib.hid hmi
        have HMO := Lib.hid hmo
        have hszi := hmo.size
        have hbxi : wi.cell? ⟨w.heap.size, 0, none⟩ = some (.slice a n cap) := by rw [hmo.cell (by have := HSZ.out; omega) (by have := HSZ.out; omega), HFL.out.below.cell (p := ⟨w.heap.size, 0, none⟩) (by show w.heap.size < _; have := HSZ.out; omega)]; exact hbx
        have hbwi : Below w.heap.size w wi := HU.out.trans ((HBW1.out.mono HU.out.size).trans (hmo.below (by have := HSZ.out; omega) (by have := HSZ.out; omega)))
        have HBWI := Lib.hid hbwi
        clear hnx hmi
        by_cases hlt : k < n
        · have hkQ : k < Q.length := by rw [HN.out]; exact hlt
          obtain ⟨hr1, hr2⟩ := HR.out
          rcases hr1 with h9 | ⟨b, off, rfl, hbl2, hcc⟩
          · rw [h9] at hkQ; exact absurd hkQ (Nat.not_lt_zero _)
          have hcq := (hcc k hkQ).below hbwi hbl2
          have hfine := (hr2 _ (List.getElem_mem hkQ)).below hbwi
          have hsl := HQL.out _ (List.getElem_mem hkQ)
          have hva : opAt (valsOf Q) k = (Q[k]).val := valsOf_get hkQ
          have HBD := Lib.hid (HBDA.out k hlt)
          have hpR : p < R.length := by rw [HRL.out]; omega
          have hpL2 : p < L := by omega
          rcases HS.out with h8 | ⟨b2, off2, rfl, hbl3, hcr⟩
          · rw [List.map_eq_nil_iff] at h8; rw [h8] at hpR; exact absurd hpR (Nat.not_lt_zero _)
          have hcr0 := hcr p (by rw [List.length_map]; exact hpR)
          have hgd : (R.map Int.ofNat).getD p 0 = ((R.getD p 0 : Nat) : Int) := by
            rw [List.getD_eq_getElem?_getD, List.getElem?_map, List.getElem?_eq_getElem hpR, List.getD_eq_getElem?_getD, List.getElem?_eq_getElem hpR]
            rfl
          rw [hgd, ← hbwi.cell (p := ⟨b2, off2 + p, none⟩) hbl3] at hcr0
          have hch := hmo.cell (p := wr.heap.size) (b := hb) (o := k) (by omega) HM1.out.lt
          rw [HM1.out.cell k hlt] at hch
          generalize Q[k] = q at *
          obtain ⟨op, qa, qb, neg, sa, sl, sc', set⟩ := q
          obtain ⟨d0, d1, d2, d3, d4⟩ := hcq
          simp only [] at d0 d1 d2 d3 d4 hsl
          have HVA := Lib.hid (show opAt (valsOf Q) k = (op, qa, qb, neg, set) from hva)
          obtain ⟨u5, hu5, s5, b5, ⟨c0, c1, c2, c3, c4⟩, hf5⟩ := laid5 wi (.int .i64 op) (.int .i64 qa) (.int .i64 qb) (.bool neg) (.slice sa sl sc') 76
          have hsl2 : set.length = sl := hfine.2.1
          have HF5 := Lib.hid (show RowI .i64 u5 sa set from hfine.1.below b5)
          rw [← b5.cell (p := ⟨hb, k, none⟩) (show hb < wi.heap.size by omega)] at hch
          have hbox5 : u5.cell? ⟨w.heap.size, 0, none⟩ = some (.slice (some ⟨b, off, none⟩) n cap) := by rw [b5.cell (p := ⟨w.heap.size, 0, none⟩) (by show w.heap.size < _; have := HSZ.out; omega)]; exact hbxi
          rw [← b5.cell (p := ⟨b2, off2 + p, none⟩) (Nat.lt_of_lt_of_le hbl3 hbwi.size)] at hcr0
          obtain ⟨c, hcc0⟩ : ∃ c, R.getD p 0 = c := ⟨_, rfl⟩
          rw [hcc0] at hcr0
          have HC := Lib.hid hcc0
          have HMK5 := Lib.hid (HMI.out.below b5)
          have HMO5 := Lib.hid (hmo.call b5)
          have HB5 := Lib.hid (hbwi.trans (b5.mono hbwi.size))
          have hwu5 := HMO5.out.size
          have hRX := fun d => specRxHas_draws sa sc' set neg (c : Int) (u5.drewN d) (HF5.out.below (Go.below_drewN (Below.refl _ _) d)) (by omega)
          rw [hsl2] at hRX
          have HRX := Lib.hid hRX
          have HCM := Lib.hid (fun (hk1 : k + 1 < n) d => (show Calls Tryd.prog 44 #[.agg #[.slice (some ⟨b, off, none⟩) n cap], .int .i64 ((k : Int) + 1), .int .i64 ((p : Int) + 1), .int .i64 (L : Int), .slice (some ⟨wr.heap.size, 0, none⟩) n n] (u5.drewN d) fun e w' => e = .returned (.tuple #[]) ∧ ∃ M : Nat → Bool, Marks w' wr.heap.size n (fun j => .bool (M j)) ∧ Mostly wr.heap.size (u5.drewN d) w' ∧
              (∀ j, M j = true ↔ N j = true ∨ Rch (SU Q L) (p + 1) (k + 1) j) ∧ ∀ j, M j = true → ∀ k ∈ SU Q L (p + 1) j, M k = true from
            l07Come_any _ cap n Q wr.heap.size (k + 1) (p + 1) L N w (u5.drewN d) HR.out (Go.below_drewN HB5.out d) HN.out HBDA.out hn4 hk1 (HMK5.out.below (Go.below_drewN (Below.refl _ _) d)) (by have := HSZ.out; omega) HNX.out.2.1))
          have hk1 : k + 1 < n ∨ TK Q R p k = false := by
            cases ht : TK Q R p k
            · exact .inr rfl
            · exact .inl (rdg_lt HBD.out hlt (tk_rdg ht))
          have HK1 := Lib.hid hk1
          have HA := Lib.hid (HAT.out k)
          clear s5 hva hcc hr2 hfine b5 hf5 hkQ hcr hgd hcc0 hpR hRX hk1 hmo hbwi
          cases hMk : M k
          · rw [hMk] at hch
            have HMS := Lib.hid (HNX.out.miss (k := k) (fun h => by have := HA.out.2 h.1; rw [hMk] at this; cases this))
            go_wp2
            go_quiet (fail)
            go_wp2
            exact ⟨⟨k + 1, N, any, by omega, rfl, by go_num, HMS.out, HMK5.out.below (Go.below_drewN (Below.refl _ _) _), HMO5.out.call (Go.below_drewN (Below.refl _ _) _)⟩, by simp [intOf]; omega⟩
          rw [hMk] at hch
          by_cases o2 : op = 2
          · subst o2
            have HTK : Hid (TK Q R p k = true) := Lib.hid (tk_any HVA.out)
            have hk1 : k + 1 < n := by rcases HK1.out with h | h; exact h; rw [HTK.out] at h; cases h
            have HCC := Lib.hid (fun d => HCM.out hk1 d)
            go_wp2
            go_quiet (fail)
            go_wp2_with fail
            refine (HCC.out _).mono ?_
            rintro e w2 ⟨rfl, M', hm2, hmo2, hi2, hcl2⟩
            have HMS := Lib.hid (HNX.out.hit (HA.out.1 hMk) HTK.out hi2 hcl2)
            have HM2 := Lib.hid hm2
            have HMO2 := Lib.hid (HMO5.out.trans ((Mostly.of_below (Go.below_drewN (Below.refl _ _) _)).trans hmo2))
            clear hm2 hmo2 hi2 hcl2
            go_wp2
            exact ⟨⟨k + 1, M', true, by omega, rfl, by go_num, HMS.out, HM2.out, HMO2.out⟩, by simp [intOf]; omega⟩
          by_cases o1 : op = 1
          · subst o1
            have HTC : Hid (TK Q R p k = (qa == (c : Int))) := Lib.hid (by rw [← HC.out]; exact tk_char HVA.out)
            cases hqc : (qa == (c : Int))
            · have HMS := Lib.hid (HNX.out.miss (k := k) (fun h => by have := h.2; rw [HTC.out, hqc] at this; cases this))
              go_wp2
              go_quiet (fail)
              go_wp2
              exact ⟨⟨k + 1, N, any, by omega, rfl, by go_num, HMS.out, HMK5.out.below (Go.below_drewN (Below.refl _ _) _), HMO5.out.call (Go.below_drewN (Below.refl _ _) _)⟩, by simp [intOf]; omega⟩
            · have HTK : Hid (TK Q R p k = true) := Lib.hid (by rw [HTC.out, hqc])
              have hk1 : k + 1 < n := by rcases HK1.out with h | h; exact h; rw [HTK.out] at h; cases h
              have HCC := Lib.hid (fun d => HCM.out hk1 d)
              go_wp2
              go_quiet (fail)
              go_wp2_with fail
              refine (HCC.out _).mono ?_
              rintro e w2 ⟨rfl, M', hm2, hmo2, hi2, hcl2⟩
              have HMS := Lib.hid (HNX.out.hit (HA.out.1 hMk) HTK.out hi2 hcl2)
              have HM2 := Lib.hid hm2
              have HMO2 := Lib.hid (HMO5.out.trans ((Mostly.of_below (Go.below_drewN (Below.refl _ _) _)).trans hmo2))
              clear hm2 hmo2 hi2 hcl2
              go_wp2
              exact ⟨⟨k + 1, M', true, by omega, rfl, by go_num, HMS.out, HM2.out, HMO2.out⟩, by simp [intOf]; omega⟩
          by_cases o3 : op = 3
          · subst o3
            have HTC : Hid (TK Q R p k = rxHas set neg (c : Int)) := Lib.hid (by rw [← HC.out]; exact tk_set HVA.out)
            cases hqc : rxHas set neg (c : Int)
            · rw [hqc] at HRX
              have HMS := Lib.hid (HNX.out.miss (k := k) (fun h => by have := h.2; rw [HTC.out, hqc] at this; cases this))
              go_wp2
              go_quiet ((go_at_call 45; exact Calls.quiet_of (HRX.out _)))
              go_wp2
              exact ⟨⟨k + 1, N, any, by omega, rfl, by go_num, HMS.out, HMK5.out.below (Go.below_drewN (Below.refl _ _) _), HMO5.out.call (Go.below_drewN (Below.refl _ _) _)⟩, by simp [intOf]; omega⟩
            · rw [hqc] at HRX
              have HTK : Hid (TK Q R p k = true) := Lib.hid (by rw [HTC.out, hqc])
              have hk1 : k + 1 < n := by rcases HK1.out with h | h; exact h; rw [HTK.out] at h; cases h
              have HCC := Lib.hid (fun d => HCM.out hk1 d)
              go_wp2
              go_quiet ((go_at_call 45; exact Calls.quiet_of (HRX.out _)))
              go_wp2_with fail
              refine (HCC.out _).mono ?_
              rintro e w2 ⟨rfl, M', hm2, hmo2, hi2, hcl2⟩
              have HMS := Lib.hid (HNX.out.hit (HA.out.1 hMk) HTK.out hi2 hcl2)
              have HM2 := Lib.hid hm2
              have HMO2 := Lib.hid (HMO5.out.trans ((Mostly.of_below (Go.below_drewN (Below.refl _ _) _)).trans hmo2))
              clear hm2 hmo2 hi2 hcl2
              go_wp2
              exact ⟨⟨k + 1, M', true, by omega, rfl, by go_num, HMS.out, HM2.out, HMO2.out⟩, by simp [intOf]; omega⟩
          have HMS := Lib.hid (HNX.out.miss (k := k) (fun h => by have := h.2; rw [show TK Q R p k = false from tk_none HVA.out o1 o2 o3] at this; cases this))
          go_wp2
          go_quiet (fail)
          go_wp2
          exact ⟨⟨k + 1, N, any, by omega, rfl, by go_num, HMS.out, HMK5.out.below (Go.below_drewN (Below.refl _ _) _), HMO5.out.call (Go.below_drewN (Below.refl _ _) _)⟩, by simp [intOf]; omega⟩
        · obtain rfl : k = n := by omega
          obtain ⟨f1, f2⟩ := HNX.out.full hfp (by omega) (fun i hi => at_lt HBDA.out hn1 hi)
          have F1 := Lib.hid f1
          have F2 := Lib.hid f2
          clear f1 f2 hmo
          cases any
          · have HG := Lib.hid (HY.out.all (fun q hq => F2.out rfl q _ hq))
            go_wp2
            go_ret
            exact ⟨_, rfl, HG.out, HBWI.out⟩
          · go_wp2
            exact ⟨⟨p + 1, _, N, _, rfl, rfl, by go_num, by omega, by omega, HY.out, HMI.out, F1.out, by omega, HBW1.out.trans (HMO.out.below hszr (by omega))⟩, by simp [intOf]; omega⟩
end Go.Proofs.YtobpecgecopdnaaDoor

/-
  The contract of spec.DecPow. Condition: a number in form, a power within the bounds.
-/
import Derived.Test.YtbfkmpignbppfaaDoorDecPow
import Derived.Test.YtbfkmpignbppfaaDoorDecOf
import Derived.Test.YtbfkmpignbppfaaDoorDecMulWalk
namespace Go.Proofs.YtbfkmpignbppfaaDoor
open Go.RowKit
set_option linter.unusedVariables false
set_option linter.unusedSimpArgs false

theorem specOne (w : World) : Calls Tryd.prog 21 #[.int .i64 1] w fun e w' => e = .returned (.agg #[.bool false, .string ⟨#[49]⟩, .int .i64 0]) ∧ Below w.heap.size w w' :=
  specDecOf_any 1 w (by decide) (by decide) false ⟨#[49]⟩ 0 0 one_form

/-- the loop's number so far -/
noncomputable def spw (a : NumC) : Nat → NumC
  | 0 => ⟨false, ⟨#[49]⟩, 0, 0⟩
  | k + 1 => powQ a k
theorem spw_ok {a : NumC} (h : a.ok) : ∀ k, (spw a k).ok
  | 0 => ⟨show decOk false [49] 0 = true by decide, show (⟨#[49]⟩ : ByteArray).size ≤ 20 by decide, .inl rfl⟩
  | k + 1 => powQ_ok h k
theorem spw_stay {a : NumC} {j m : Nat} (h : (spw a j).code ≠ 0) (hj : j ≤ m) : spw a m = spw a j := by
  cases j with
  | zero => exact absurd rfl h
  | succ j =>
    obtain ⟨k, rfl⟩ : ∃ k, m = k + 1 := ⟨m - 1, by omega⟩
    exact powQ_stay h k (by omega)
/-- what the loop holds: the number, the result's place, the power so far -/
def XAt (v w : World) (p g : Nat) (a q : NumC) : Prop :=
  Below v.heap.size v w ∧ (p < w.heap.size ∧ p + 1 < w.heap.size ∧ g < w.heap.size) ∧
  (w.cell? ⟨p, 0, none⟩ = some (.bool a.neg) ∧ w.cell? ⟨p, 1, none⟩ = some (.string a.dig) ∧ w.cell? ⟨p, 2, none⟩ = some (.int .i64 a.exp)) ∧
  ((w.cell? ⟨p + 1, 0, none⟩ = some (.bool false) ∧ w.cell? ⟨p + 1, 1, none⟩ = some (.string ⟨#[]⟩) ∧ w.cell? ⟨p + 1, 2, none⟩ = some (.int .i64 0)) ∧
    (w.frozen? ⟨p + 1, 0, none⟩ = false ∧ w.frozen? ⟨p + 1, 1, none⟩ = false ∧ w.frozen? ⟨p + 1, 2, none⟩ = false)) ∧
  ((w.cell? ⟨g, 0, none⟩ = some (.bool q.neg) ∧ w.cell? ⟨g, 1, none⟩ = some (.string q.dig) ∧ w.cell? ⟨g, 2, none⟩ = some (.int .i64 q.exp)) ∧
    (w.frozen? ⟨g, 0, none⟩ = false ∧ w.frozen? ⟨g, 1, none⟩ = false ∧ w.frozen? ⟨g, 2, none⟩ = false))
theorem XAt.kept {v w w1 : World} {p g : Nat} {a q : NumC} (h : XAt v w p g a q) (hb : Below w.heap.size w w1) : XAt v w1 p g a q := by
  obtain ⟨hv, ⟨z1, z2, z3⟩, hc, hr, hp⟩ := h
  obtain ⟨k1, k2, k3, k4⟩ := pair_kept hb ⟨z1, z2⟩ hv hc hr
  obtain ⟨-, k6, -, k8⟩ := pair_kept hb ⟨z1, z3⟩ hv hc hp
  exact ⟨k1, ⟨k2.1, k2.2, k6.2⟩, k3, k4, k8⟩
theorem XAt.put {v w : World} {p g : Nat} {a q : NumC} (h : XAt v w p g a q) (hp : v.heap.size ≤ p) (hg : p + 1 < g) (r : NumC) :
    XAt v (((w.setCell ⟨g, 0, none⟩ (.bool r.neg)).setCell ⟨g, 1, none⟩ (.string r.dig)).setCell ⟨g, 2, none⟩ (.int .i64 r.exp)) p g a r := by
  obtain ⟨hv, ⟨z1, z2, z3⟩, ⟨c0, c1, c2⟩, ⟨⟨r0, r1, r2⟩, f0, f1, f2⟩, ⟨p0, p1, p2⟩, g0, g1, g2⟩ := h
  have n1 : g ≠ p := by omega
  have n2 : g ≠ p + 1 := by omega
  refine ⟨set_three hv (by omega) _ _ _, ⟨by simpa using z1, by simpa using z2, by simpa using z3⟩, ?_, ?_, ?_⟩
  · rw [set_far n1, set_far n1, set_far n1]; exact ⟨c0, c1, c2⟩
  · rw [set_far n2, set_far n2, set_far n2, set_froz, set_froz, set_froz]; exact ⟨⟨r0, r1, r2⟩, f0, f1, f2⟩
  · rw [set_froz, set_froz, set_froz]; exact ⟨set_cells p0 p1 p2, g0, g1, g2⟩

set_option maxRecDepth 10000 in
set_option maxHeartbeats 2000000 in
theorem specDecPow_up (a : NumC) (ha : a.ok) (hc : a.code = 0) (m : Nat) (hm : m ≤ 99) (hs : a.dig.size ≤ maxLen) (hx : (Lit.int .i64 a.exp).wf = true) (w : World) :
    Calls Tryd.prog 35 #[.agg #[.bool a.neg, .string a.dig, .int .i64 a.exp], .int .i64 (m : Int)] w fun e w' => e = .returned (spw a m).val ∧ Below w.heap.size w w' := by
  have HA := Lib.hid ha
  have HC := Lib.hid hc
  have hbt : betw (m : Int) (-99) 99 = true := by simp [betw]; omega
  clear ha hc
  go_enter Tryd.func35, Tryd.ntmps35
  go_wp2_with fail
  refine (specDecOk_any a.neg a.dig a.exp _ hs hx).mono ?_
  rintro e w1 ⟨rfl, hb1⟩
  rw [HA.out.1]
  obtain ⟨w0, hw0, hz0, hb0, hc0, hr0⟩ := pair_laid w a.neg a.dig a.exp
  rw [hw0] at hb1
  obtain ⟨hv1, hz1, hc1, hr1⟩ := pair_kept hb1 hz0 hb0 hc0 hr0
  clear hw0 hz0 hb0 hc0 hr0 hb1
  go_wp2_with fail
  refine (l01Between_any _ _ _ _).mono ?_
  rintro e w8 ⟨rfl, hw8⟩
  obtain rfl : w1 = w8 := hw8.symm
  clear hw8
  rw [hbt]
  go_wp2_with fail
  refine (specOne _).mono ?_
  rintro e w2 ⟨rfl, hb2⟩
  obtain ⟨hv2, hz2, hc2, hr2⟩ := pair_kept hb2 hz1 hv1 hc1 hr1
  clear hv1 hz1 hc1 hr1 hb2
  go_wp2_with fail
  obtain ⟨w3, hw3, hz3, hb3, hc3, hf3⟩ := one_laid w2 false ⟨#[49]⟩ 0
  rw [hw3]
  have hX0 : XAt w w3 w.heap.size w2.heap.size a (spw a 0) := by
    obtain ⟨k1, k2, k3, k4⟩ := pair_kept hb3 hz2 hv2 hc2 hr2
    exact ⟨k1, ⟨k2.1, k2.2, hz3⟩, k3, k4, hc3, hf3⟩
  have hgp : w.heap.size + 1 < w2.heap.size := hz2.2
  have HX0 := Lib.hid hX0
  clear hw3 hz3 hb3 hc3 hf3 hX0 hv2 hz2 hc2 hr2
  obtain ⟨g, hg⟩ : ∃ g, w2.heap.size = g := ⟨_, rfl⟩
  rw [hg] at HX0 hgp ⊢
  clear hg
  have d1 : ¬ (w.heap.size + 1 = g) := by omega
  have d2 : ¬ (g = w.heap.size + 1) := by omega
  have d3 : ¬ (w.heap.size = g) := by omega
  have d4 : ¬ (g = w.heap.size) := by omega
  go_loopw [9, 10] (fun c i wr => ∃ j : Nat, j ≤ m ∧ i = .int .i64 (j : Int) ∧ c = .int .i64 (spw a j).code ∧ XAt w wr w.heap.size g a (spw a j)) (fun _ i _ => m - (intOf i).toNat)
  case atStart => exact ⟨0, Nat.zero_le _, rfl, rfl, HX0.out⟩
  case round =>
    obtain ⟨j, hj, rfl, rfl, hXj⟩ := hrel
    obtain ⟨q, hq⟩ : ∃ q, spw a j = q := ⟨_, rfl⟩
    rw [hq] at hXj ⊢
    have HQ := Lib.hid hq
    have HQO := Lib.hid (show q.ok by rw [← hq]; exact spw_ok HA.out j)
    have HXJ := Lib.hid hXj
    obtain ⟨hv, ⟨z1, z2, z3⟩, hcA, hrR, hpP⟩ := hXj
    clear hq
    by_cases hend : j < m ∧ q.code = 0
    · obtain ⟨hlt, hc0⟩ := hend
      have hlt' : (j : Int) < (m : Int) := by omega
      have hcb : (q.code == 0) = true := beq_iff_eq.2 hc0
      have HC0 := Lib.hid hc0
      by_cases hj0 : j = 0
      · have hjb : ((j : Int) == 0) = true := beq_iff_eq.2 (by omega)
        have HN := Lib.hid (show spw a (j + 1) = a by rw [hj0]; rfl)
        clear hj0 hlt hc0
        go_wp2
        refine ⟨⟨j + 1, by omega, by go_num, by rw [HN.out, HC0.out, HC.out], ?_⟩, by simp [intOf]; omega⟩
        rw [HN.out]
        exact HXJ.out.put (Nat.le_refl _) hgp a
      · have hjb : ((j : Int) == 0) = false := beq_eq_false_iff_ne.2 (by omega)
        have HN := Lib.hid (show spw a (j + 1) = mulQ q a by
          obtain ⟨k, rfl⟩ : ∃ k, j = k + 1 := ⟨j - 1, by omega⟩
          have e : powQ a k = q := HQ.out
          show powQ a (k + 1) = _
          rw [show powQ a (k + 1) = if (powQ a k).code = 0 then mulQ (powQ a k) a else powQ a k from rfl, e, if_pos hc0])
        have hM := Lib.hid (fun (w : World) (hsq : q.dig.size ≤ maxLen) (hxq : (Lit.int .i64 q.exp).wf = true) => by
          have := specDecMul_yes q.neg q.dig q.exp a.neg a.dig a.exp w hsq hxq hs hx HQO.out.1 HA.out.1
          rw [mulQ_val q a] at this
          unfold NumC.val at this
          exact this)
        obtain ⟨r, hr⟩ : ∃ r, mulQ q a = r := ⟨_, rfl⟩
        rw [hr] at hM HN
        have hqw : (Lit.int .i64 q.exp).wf = true := by
          obtain ⟨-, b2, b3, -⟩ := dec_facts HQO.out.1
          simp [Lit.wf, IntKind.min, IntKind.max, IntKind.signed, IntKind.bits]; omega
        have hqs : q.dig.size ≤ maxLen := by
          have := HQO.out.2.1
          unfold maxLen; omega
        clear hr hj0 hlt hc0
        go_wp2_with fail
        refine (hM.out _ hqs hqw).mono ?_
        rintro e w1 ⟨rfl, hb1⟩
        have HK := Lib.hid (HXJ.out.kept hb1)
        clear hv z1 z2 z3 hcA hrR hpP hb1
        obtain ⟨hv, ⟨z1, z2, z3⟩, hcA, hrR, hpP⟩ := HK.out
        go_wp2
        refine ⟨⟨j + 1, by omega, by go_num, by rw [HN.out], ?_⟩, by simp [intOf]; omega⟩
        rw [HN.out]
        exact HK.out.put (Nat.le_refl _) hgp r
    · have HEND := Lib.hid (show (spw a m).val = .tuple #[.agg #[.bool q.neg, .string q.dig, .int .i64 q.exp], .int .i64 q.code] by
        have e : spw a m = q := by
          by_cases hlt : j < m
          · have hcn : q.code ≠ 0 := fun h => hend ⟨hlt, h⟩
            rw [spw_stay (j := j) (by rw [HQ.out]; exact hcn) hj, HQ.out]
          · rw [← HQ.out, show j = m by omega]
        rw [e]; rfl)
      by_cases hlt : j < m
      · have hlt' : (j : Int) < (m : Int) := by omega
        have hcb : (q.code == 0) = false := beq_eq_false_iff_ne.2 (fun h => hend ⟨hlt, h⟩)
        clear hend hlt
        go_wp2
        refine bodyPost_ret (v := .tuple #[.agg #[.bool q.neg, .string q.dig, .int .i64 q.exp], .int .i64 q.code]) (by simp [results, Tryd.results35, go_sem, *]) rfl ?_
        exact ⟨by rw [HEND.out], set_three hv (b := w.heap.size + 1) (by omega) _ _ _⟩
      · have hlt' : ¬ (j : Int) < (m : Int) := by omega
        clear hend hlt
        go_wp2
        refine bodyPost_ret (v := .tuple #[.agg #[.bool q.neg, .string q.dig, .int .i64 q.exp], .int .i64 q.code]) (by simp [results, Tryd.results35, go_sem, *]) rfl ?_
        exact ⟨by rw [HEND.out], set_three hv (b := w.heap.size + 1) (by omega) _ _ _⟩

theorem wf_exp {n : Bool} {s : ByteArray} {x : Int} (h : decOk n (bs s) x = true) : (Lit.int .i64 x).wf = true := by
  obtain ⟨-, b2, b3, -⟩ := dec_facts h
  simp [Lit.wf, IntKind.min, IntKind.max, IntKind.signed, IntKind.bits]; omega
theorem sz_dig {q : NumC} (h : q.ok) : q.dig.size ≤ maxLen := by
  have := h.2.1
  unfold maxLen; omega

set_option maxRecDepth 10000 in
set_option maxHeartbeats 2000000 in
theorem specDecPow_down (a : NumC) (ha : a.ok) (hc : a.code = 0) (k : Nat) (hk : k ≤ 98) (hs : a.dig.size ≤ maxLen) (hx : (Lit.int .i64 a.exp).wf = true) (w : World) :
    Calls Tryd.prog 35 #[.agg #[.bool a.neg, .string a.dig, .int .i64 a.exp], .int .i64 (-((k + 1 : Nat) : Int))] w fun e w' => e = .returned (powDown a k) ∧ Below w.heap.size w w' := by
  have HA := Lib.hid ha
  obtain ⟨q, hq⟩ : ∃ q, powQ a k = q := ⟨_, rfl⟩
  have HQO := Lib.hid (show q.ok by rw [← hq]; exact powQ_ok ha k)
  have hU := Lib.hid (fun w => by
    have := specDecPow_up a ha hc (k + 1) (by omega) hs hx w
    rw [show spw a (k + 1) = q from hq] at this
    unfold NumC.val at this
    exact this)
  obtain ⟨m, hm⟩ : ∃ m : Nat, m = k + 1 := ⟨_, rfl⟩
  rw [← hm] at hU ⊢
  have hbt : betw (-(m : Int)) (-99) 99 = true := by simp [betw]; omega
  have hmn : -(m : Int) < 0 := by omega
  have hmb : m ≤ 99 := by omega
  have HQ := Lib.hid hq
  obtain ⟨r, hr⟩ := divV_num false ⟨#[49]⟩ 0 q.neg q.dig q.exp
  have hD := Lib.hid (fun w => by
    have := specDecDiv_yes false ⟨#[49]⟩ 0 q.neg q.dig q.exp w (by decide) (by decide) (sz_dig HQO.out) (wf_exp HQO.out.1) (by decide) HQO.out.1
    rw [hr] at this
    unfold NumC.val at this
    exact this)
  have HR := Lib.hid hr
  clear ha hc hq hm hr
  go_enter Tryd.func35, Tryd.ntmps35
  go_wp2_with fail
  refine (specDecOk_any a.neg a.dig a.exp _ hs hx).mono ?_
  rintro e w1 ⟨rfl, hb1⟩
  rw [HA.out.1]
  obtain ⟨w0, hw0, hz0, hb0, hc0, hr0⟩ := pair_laid w a.neg a.dig a.exp
  rw [hw0] at hb1
  obtain ⟨hv1, hz1, hc1, hr1⟩ := pair_kept hb1 hz0 hb0 hc0 hr0
  clear hw0 hz0 hb0 hc0 hr0 hb1
  go_wp2_with fail
  refine (l01Between_any _ _ _ _).mono ?_
  rintro e w8 ⟨rfl, hw8⟩
  obtain rfl : w1 = w8 := hw8.symm
  clear hw8
  rw [hbt]
  go_wp2_with fail
  refine (hU.out _).mono ?_
  rintro e w2 ⟨rfl, hb2⟩
  obtain ⟨hv2, hz2, hc2, hr2⟩ := pair_kept hb2 hz1 hv1 hc1 hr1
  clear hv1 hz1 hc1 hr1 hb2
  obtain ⟨hz2a, hz2b⟩ := hz2
  have d1 : ¬ (w.heap.size + 1 = w2.heap.size) := Nat.ne_of_lt hz2b
  have d2 : ¬ (w2.heap.size = w.heap.size + 1) := Nat.ne_of_gt hz2b
  by_cases hqc : q.code = 0
  · have hcb : (q.code == 0) = true := beq_iff_eq.2 hqc
    have HEND := Lib.hid (show powDown a k = .tuple #[.agg #[.bool r.neg, .string r.dig, .int .i64 r.exp], .int .i64 r.code] by
      unfold powDown
      rw [HQ.out, if_pos hqc, HR.out]; rfl)
    clear hqc
    go_wp2_with fail
    obtain ⟨w3, hw3, hz3, hb3, hx3, hf3⟩ := one_laid w2 q.neg q.dig q.exp
    rw [hw3]
    obtain ⟨hv3, hz4, -, hr3⟩ := pair_kept hb3 ⟨hz2a, hz2b⟩ hv2 hc2 hr2
    have hz5 := And.intro hz3 hz4.2
    clear hw3 hz3 hb3 hf3 hz4 hv2 hc2 hr2
    obtain ⟨g, hg⟩ : ∃ g, w2.heap.size = g := ⟨_, rfl⟩
    rw [hg] at hx3 hz5 d1 d2 ⊢
    clear hg hz2a hz2b
    go_region_held3 (fun w' => w'.cell? ⟨g, 0, none⟩ = some (.bool q.neg) ∧ w'.cell? ⟨g, 1, none⟩ = some (.string q.dig) ∧ w'.cell? ⟨g, 2, none⟩ = some (.int .i64 q.exp)) (first | assumption | go_keep)
      (first
        | (go_at_call 21; refine (specOne _).mono ?_; rintro e w1 ⟨rfl, hb1⟩; obtain ⟨hv1, hz1, hc1, hr1⟩ := pair_kept hb1 (by assumption) (v := w) (by first | assumption | exact Below.drew (by assumption)) (by assumption) (by assumption); clear hb1)
        | (go_at_call 31; refine (hD.out _).mono ?_; rintro e w1 ⟨rfl, hb1⟩; obtain ⟨hv1, hz1, hc1, hr1⟩ := pair_kept hb1 (by assumption) (v := w) (by first | assumption | exact Below.drew (by assumption)) (by assumption) (by assumption); clear hb1))
    clear hD hU
    go_wp2
    refine bodyPost_ret (v := .tuple #[.agg #[.bool r.neg, .string r.dig, .int .i64 r.exp], .int .i64 r.code]) (by simp [results, Tryd.results35, go_sem, *]) rfl ?_
    exact ⟨by rw [HEND.out], set_three (by assumption) (b := w.heap.size + 1) (by omega) _ _ _⟩
  · have hcb : (q.code == 0) = false := beq_eq_false_iff_ne.2 hqc
    have HEND := Lib.hid (show powDown a k = .tuple #[.agg #[.bool false, .string ⟨#[]⟩, .int .i64 0], .int .i64 q.code] by
      unfold powDown
      rw [HQ.out, if_neg hqc])
    clear hqc
    go_wp2
    refine bodyPost_ret (v := .tuple #[.agg #[.bool false, .string ⟨#[]⟩, .int .i64 0], .int .i64 q.code]) (by simp [results, Tryd.results35, go_sem, *]) rfl ?_
    exact ⟨by rw [HEND.out], (set_three hv2 (b := w.heap.size + 1) (by omega) _ _ _).alloc (set_three hv2 (b := w.heap.size + 1) (by omega) _ _ _).size _⟩
end Go.Proofs.YtbfkmpignbppfaaDoor

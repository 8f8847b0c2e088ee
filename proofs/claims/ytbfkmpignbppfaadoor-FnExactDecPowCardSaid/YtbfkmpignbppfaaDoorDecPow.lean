/-
  The contract of impl.decPow. Condition: a number in form.
-/
import Derived.Test.YtbfkmpignbppfaaDoorPow
import Derived.Test.YtbfkmpignbppfaaDoorDecDivWalk
import Derived.Test.YtbfkmpignbppfaaDoorPair
import Derived.Test.YtbfkmpignbppfaaDoorBetw
import Derived.Deep.CutRange
namespace Go.Proofs.YtbfkmpignbppfaaDoor
open Go.RowKit
set_option linter.unusedVariables false
set_option linter.unusedSimpArgs false

/-- what the loop leaves: the number, the result's place, the power so far -/
def PowAt (v w : World) (p : Nat) (a q : NumC) : Prop :=
  Below v.heap.size v w ∧ (p < w.heap.size ∧ p + 1 < w.heap.size ∧ p + 1 + 1 + 1 < w.heap.size) ∧
  (w.cell? ⟨p, 0, none⟩ = some (.bool a.neg) ∧ w.cell? ⟨p, 1, none⟩ = some (.string a.dig) ∧ w.cell? ⟨p, 2, none⟩ = some (.int .i64 a.exp)) ∧
  ((w.cell? ⟨p + 1, 0, none⟩ = some (.bool false) ∧ w.cell? ⟨p + 1, 1, none⟩ = some (.string ⟨#[]⟩) ∧ w.cell? ⟨p + 1, 2, none⟩ = some (.int .i64 0)) ∧
    (w.frozen? ⟨p + 1, 0, none⟩ = false ∧ w.frozen? ⟨p + 1, 1, none⟩ = false ∧ w.frozen? ⟨p + 1, 2, none⟩ = false)) ∧
  ((w.cell? ⟨p + 1 + 1, 0, none⟩ = some (.bool false) ∧ w.cell? ⟨p + 1 + 1, 1, none⟩ = some (.string ⟨#[49]⟩) ∧ w.cell? ⟨p + 1 + 1, 2, none⟩ = some (.int .i64 0)) ∧
    (w.frozen? ⟨p + 1 + 1, 0, none⟩ = false ∧ w.frozen? ⟨p + 1 + 1, 1, none⟩ = false ∧ w.frozen? ⟨p + 1 + 1, 2, none⟩ = false)) ∧
  ((w.cell? ⟨p + 1 + 1 + 1, 0, none⟩ = some (.bool q.neg) ∧ w.cell? ⟨p + 1 + 1 + 1, 1, none⟩ = some (.string q.dig) ∧ w.cell? ⟨p + 1 + 1 + 1, 2, none⟩ = some (.int .i64 q.exp)) ∧
    (w.frozen? ⟨p + 1 + 1 + 1, 0, none⟩ = false ∧ w.frozen? ⟨p + 1 + 1 + 1, 1, none⟩ = false ∧ w.frozen? ⟨p + 1 + 1 + 1, 2, none⟩ = false))
theorem PowAt.kept {v w w1 : World} {p : Nat} {a q : NumC} (h : PowAt v w p a q) (hb : Below w.heap.size w w1) : PowAt v w1 p a q := by
  obtain ⟨hv, ⟨z1, z2, z3⟩, hc, hr, ho, hp⟩ := h
  obtain ⟨k1, k2, k3, k4⟩ := pair_kept hb ⟨z1, z2⟩ hv hc hr
  obtain ⟨-, k6, -, k8⟩ := pair_kept hb ⟨z1, z3⟩ hv hc hp
  obtain ⟨-, -, -, k9⟩ := pair_kept hb ⟨z1, by omega⟩ hv hc ho
  exact ⟨k1, ⟨k2.1, k2.2, k6.2⟩, k3, k4, k9, k8⟩
theorem set_far {w : World} {g b i : Nat} (h : g ≠ b) (x y z : Value) : (((w.setCell ⟨g, 0, none⟩ x).setCell ⟨g, 1, none⟩ y).setCell ⟨g, 2, none⟩ z).cell? ⟨b, i, none⟩ = w.cell? ⟨b, i, none⟩ := by
  rw [World.cell?_setCell_other (h := fun e => h (congrArg Addr.block e)), World.cell?_setCell_other (h := fun e => h (congrArg Addr.block e)), World.cell?_setCell_other (h := fun e => h (congrArg Addr.block e))]
theorem set_froz (w : World) (g : Nat) (x y z : Value) (b : Addr) : (((w.setCell ⟨g, 0, none⟩ x).setCell ⟨g, 1, none⟩ y).setCell ⟨g, 2, none⟩ z).frozen? b = w.frozen? b := by
  rw [World.frozen?_setCell, World.frozen?_setCell, World.frozen?_setCell]
theorem PowAt.put {v w : World} {p : Nat} {a q : NumC} (h : PowAt v w p a q) (hp : v.heap.size ≤ p) (r : NumC) :
    PowAt v (((w.setCell ⟨p + 1 + 1 + 1, 0, none⟩ (.bool r.neg)).setCell ⟨p + 1 + 1 + 1, 1, none⟩ (.string r.dig)).setCell ⟨p + 1 + 1 + 1, 2, none⟩ (.int .i64 r.exp)) p a r := by
  obtain ⟨hv, ⟨z1, z2, z3⟩, ⟨c0, c1, c2⟩, ⟨⟨r0, r1, r2⟩, f0, f1, f2⟩, ⟨⟨o0, o1, o2⟩, l0, l1, l2⟩, ⟨p0, p1, p2⟩, g0, g1, g2⟩ := h
  have n1 : p + 1 + 1 + 1 ≠ p := by omega
  have n2 : p + 1 + 1 + 1 ≠ p + 1 := by omega
  have n3 : p + 1 + 1 + 1 ≠ p + 1 + 1 := by omega
  refine ⟨set_three hv (by omega) _ _ _, ⟨by simpa using z1, by simpa using z2, by simpa using z3⟩, ?_, ?_, ?_, ?_⟩
  · rw [set_far n1, set_far n1, set_far n1]; exact ⟨c0, c1, c2⟩
  · rw [set_far n2, set_far n2, set_far n2, set_froz, set_froz, set_froz]; exact ⟨⟨r0, r1, r2⟩, f0, f1, f2⟩
  · rw [set_far n3, set_far n3, set_far n3, set_froz, set_froz, set_froz]; exact ⟨⟨o0, o1, o2⟩, l0, l1, l2⟩
  · rw [set_froz, set_froz, set_froz]; exact ⟨set_cells p0 p1 p2, g0, g1, g2⟩
theorem pow_laid (w : World) (a : NumC) : ∃ w0, (((w.alloc (Obj.cells #[.bool a.neg, .string a.dig, .int .i64 a.exp] 26)).alloc (Obj.cells #[.bool false, .string ⟨#[]⟩, .int .i64 0] 26)).alloc (Obj.cells #[.bool false, .string ⟨#[49]⟩, .int .i64 0] 26)).alloc (Obj.cells #[.bool a.neg, .string a.dig, .int .i64 a.exp] 26) = w0 ∧ PowAt w w0 w.heap.size a a := by
  obtain ⟨u, hu, hz, hb, hc, hr⟩ := pair_laid w a.neg a.dig a.exp
  have hus : u.heap.size = w.heap.size + 1 + 1 := by rw [← hu]; simp
  obtain ⟨u2, hu2, hz2, hb2, ho2, hg2⟩ := one_laid u false ⟨#[49]⟩ 0
  rw [hus] at ho2 hg2 hz2
  have hus2 : u2.heap.size = w.heap.size + 1 + 1 + 1 := by rw [← hu2]; simp [hus]
  obtain ⟨w0, hw0, hz0, hb0, hc0, hf0⟩ := one_laid u2 a.neg a.dig a.exp
  rw [hus2] at hz0 hc0 hf0
  have hbb := hb2.trans (hb0.mono hb2.size)
  obtain ⟨k1, k2, k3, k4⟩ := pair_kept hbb hz hb hc hr
  obtain ⟨-, ho3, hg3⟩ := one_kept hb0 hz2 ho2 hg2
  exact ⟨w0, by rw [hu, hu2]; exact hw0, k1, ⟨k2.1, k2.2, hz0⟩, k3, k4, ⟨ho3, hg3⟩, hc0, hf0⟩

set_option maxRecDepth 10000 in
set_option maxHeartbeats 2000000 in
theorem decPow_up (a : NumC) (ha : a.ok) (hc : a.code = 0) (k : Nat) (hk : k ≤ 98) (w : World) :
    Calls Tryd.prog 69 #[.agg #[.bool a.neg, .string a.dig, .int .i64 a.exp], .int .i64 ((k + 1 : Nat) : Int)] w fun e w' => e = .returned (powQ a k).val ∧ Below w.heap.size w w' := by
  obtain ⟨m, hm⟩ : ∃ m : Nat, m = k + 1 := ⟨_, rfl⟩
  rw [← hm]
  have hmx : max (m : Int) (-(m : Int)) = (m : Int) := by omega
  have hm1 : (m : Int) - 1 = (k : Int) := by omega
  have hnz : ((m : Int) == 0) = false := beq_eq_false_iff_ne.2 (by omega)
  have hmb : m ≤ 99 := by omega
  have hmn : ¬ (m : Int) < 0 := by omega
  clear hm
  have HA := Lib.hid ha
  have HC := Lib.hid hc
  clear ha hc
  go_enter Tryd.func69, Tryd.ntmps69
  go_wp2_with fail
  obtain ⟨w0, hw0, hP0⟩ := pow_laid w a
  rw [hw0]
  have HP0 := Lib.hid hP0
  clear hw0 hP0
  go_loopw [20] (fun i wr => ∃ j : Nat, j ≤ k ∧ i = .int .i64 (j : Int) ∧ (powQ a j).code = 0 ∧ PowAt w wr w.heap.size a (powQ a j)) (fun i _ => k - (intOf i).toNat)
  case atStart => exact ⟨0, Nat.zero_le _, rfl, HC.out, HP0.out⟩
  case round =>
    obtain ⟨j, hj, rfl, hcj, hPj⟩ := hrel
    obtain ⟨q, hq⟩ : ∃ q, powQ a j = q := ⟨_, rfl⟩
    rw [hq] at hcj hPj
    have HCJ := Lib.hid hcj
    have HQ := Lib.hid hq
    have HQO := Lib.hid (show q.ok by rw [← hq]; exact powQ_ok HA.out j)
    clear hcj hq
    obtain ⟨hv, ⟨z1, z2, z3⟩, hcA, hrR, hoO, hpP⟩ := hPj
    have HPJ := Lib.hid (show PowAt w wr w.heap.size a q from ⟨hv, ⟨z1, z2, z3⟩, hcA, hrR, hoO, hpP⟩)
    by_cases hlt : j < k
    · have hlt' : (j : Int) < (k : Int) := by omega
      have hM := Lib.hid (fun w => by
        have := decMul_any q.neg q.dig q.exp a.neg a.dig a.exp w HQO.out.1 HA.out.1
        rw [mulQ_val q a] at this
        unfold NumC.val at this
        exact this : ∀ w : World, Calls Tryd.prog 62 #[.agg #[.bool q.neg, .string q.dig, .int .i64 q.exp], .agg #[.bool a.neg, .string a.dig, .int .i64 a.exp]] w fun e w' => e = .returned (.tuple #[.agg #[.bool (mulQ q a).neg, .string (mulQ q a).dig, .int .i64 (mulQ q a).exp], .int .i64 (mulQ q a).code]) ∧ Below w.heap.size w w')
      obtain ⟨r, hr⟩ : ∃ r, mulQ q a = r := ⟨_, rfl⟩
      rw [hr] at hM
      have HR := Lib.hid hr
      clear hr
      have HRO := Lib.hid (show r.ok by rw [← HR.out]; exact mulQ_ok q a)
      have HNEXT := Lib.hid (show powQ a (j + 1) = r by rw [show powQ a (j + 1) = if (powQ a j).code = 0 then mulQ (powQ a j) a else powQ a j from rfl, HQ.out, if_pos HCJ.out, HR.out])
      go_wp2_with fail
      refine (hM.out _).mono ?_
      rintro e w1 ⟨rfl, hb1⟩
      have HK := Lib.hid (HPJ.out.kept hb1)
      clear hv z1 z2 z3 hcA hrR hoO hpP hb1
      obtain ⟨hv, ⟨z1, z2, z3⟩, hcA, hrR, hoO, hpP⟩ := HK.out
      have d1 : ¬ (w.heap.size + 1 = w1.heap.size) := Nat.ne_of_lt z2
      have d2 : ¬ (w1.heap.size = w.heap.size + 1) := Nat.ne_of_gt z2
      have d3 : ¬ (w.heap.size + 1 + 1 + 1 = w1.heap.size) := Nat.ne_of_lt z3
      have d4 : ¬ (w1.heap.size = w.heap.size + 1 + 1 + 1) := Nat.ne_of_gt z3
      have d5 : ¬ (w.heap.size = w1.heap.size) := Nat.ne_of_lt z1
      have d6 : ¬ (w1.heap.size = w.heap.size) := Nat.ne_of_gt z1
      by_cases hrc : r.code = 0
      · have hrb : (r.code == 0) = true := beq_iff_eq.2 hrc
        have HRC := Lib.hid hrc
        clear hrc
        go_wp2
        refine ⟨⟨j + 1, by omega, by go_num, by rw [HNEXT.out]; exact HRC.out, ?_⟩, by simp [intOf]; omega⟩
        rw [HNEXT.out]
        exact (HK.out.put (Nat.le_refl _) r).kept ((Below.refl _ _).alloc (Nat.le_refl _) _)
      · have hrb : (r.code == 0) = false := beq_eq_false_iff_ne.2 hrc
        have HEND := Lib.hid (show (powQ a k).val = .tuple #[.agg #[.bool false, .string ⟨#[]⟩, .int .i64 0], .int .i64 r.code] by
          have e : powQ a k = r := by
            rw [← HNEXT.out]
            exact powQ_stay (by rw [HNEXT.out]; exact hrc) k (by omega)
          rw [e]
          rcases HRO.out.2.2 with h | ⟨h1, h2, h3, h4⟩
          · exact absurd h hrc
          · unfold NumC.val; rw [h2, h3, h4])
        clear hrc
        go_wp2
        refine bodyPost_ret (v := .tuple #[.agg #[.bool false, .string ⟨#[]⟩, .int .i64 0], .int .i64 r.code]) (by simp [results, Tryd.results69, go_sem, *]) rfl ?_
        exact ⟨by rw [HEND.out], (set_three hv (b := w.heap.size + 1) (by omega) _ _ _).alloc (set_three hv (b := w.heap.size + 1) (by omega) _ _ _).size _⟩
    · have hjk : j = k := by omega
      have hlt' : ¬ (j : Int) < (k : Int) := by omega
      have HEND := Lib.hid (show (powQ a k).val = .tuple #[.agg #[.bool q.neg, .string q.dig, .int .i64 q.exp], .int .i64 0] by
        rw [← hjk, HQ.out]; unfold NumC.val; rw [HCJ.out])
      clear hlt hjk
      go_wp2
      refine bodyPost_ret (v := .tuple #[.agg #[.bool q.neg, .string q.dig, .int .i64 q.exp], .int .i64 0]) (by simp [results, Tryd.results69, go_sem, *]) rfl ?_
      exact ⟨by rw [HEND.out], set_three hv (b := w.heap.size + 1) (by omega) _ _ _⟩

/-- one by a power, or the power's fault -/
noncomputable def powDown (a : NumC) (k : Nat) : Value := if (powQ a k).code = 0 then divV false ⟨#[49]⟩ 0 (powQ a k).neg (powQ a k).dig (powQ a k).exp else .tuple #[.agg #[.bool false, .string ⟨#[]⟩, .int .i64 0], .int .i64 (powQ a k).code]
theorem decPow_zero (a : NumC) (w : World) :
    Calls Tryd.prog 69 #[.agg #[.bool a.neg, .string a.dig, .int .i64 a.exp], .int .i64 0] w fun e w' => e = .returned (.tuple #[.agg #[.bool false, .string ⟨#[49]⟩, .int .i64 0], .int .i64 0]) ∧ Below w.heap.size w w' := by
  go_enter Tryd.func69, Tryd.ntmps69
  go_wp2
  refine bodyPost_ret (v := .tuple #[.agg #[.bool false, .string ⟨#[49]⟩, .int .i64 0], .int .i64 0]) (by simp [results, Tryd.results69, go_sem, *]) rfl ⟨rfl, ?_⟩
  go_light
  (repeat (first | exact Below.refl _ _ | assumption | refine Below.drew ?_ | refine below_drewN ?_ _ | (refine Below.alloc ?_ (by first | exact Nat.le_refl _ | (simp; done) | (simp; omega) | (simp at *; omega)) _) | (refine Below.setCell ?_ (by first | exact Nat.le_refl _ | (simp; done) | (simp; omega)) _) | (refine Below.trans ?_ (Below.mono (by assumption) (by first | exact Nat.le_refl _ | (simp; done) | (simp; omega) | (simp at *; omega))))))

set_option maxRecDepth 10000 in
set_option maxHeartbeats 2000000 in
theorem decPow_down (a : NumC) (ha : a.ok) (hc : a.code = 0) (k : Nat) (hk : k ≤ 98) (w : World) :
    Calls Tryd.prog 69 #[.agg #[.bool a.neg, .string a.dig, .int .i64 a.exp], .int .i64 (-((k + 1 : Nat) : Int))] w fun e w' => e = .returned (powDown a k) ∧ Below w.heap.size w w' := by
  obtain ⟨m, hm⟩ : ∃ m : Nat, m = k + 1 := ⟨_, rfl⟩
  rw [← hm]
  have hmx : max (-(m : Int)) (m : Int) = (m : Int) := by omega
  have hmx2 : max (-(m : Int)) (- -(m : Int)) = (m : Int) := by omega
  have hm1 : (m : Int) - 1 = (k : Int) := by omega
  have hnz : ((-(m : Int)) == 0) = false := beq_eq_false_iff_ne.2 (by omega)
  have hmb : m ≤ 99 := by omega
  have hmn : (-(m : Int)) < 0 := by omega
  clear hm
  have HA := Lib.hid ha
  have HC := Lib.hid hc
  clear ha hc
  go_enter Tryd.func69, Tryd.ntmps69
  go_wp2_with fail
  obtain ⟨w0, hw0, hP0⟩ := pow_laid w a
  rw [hw0]
  have HP0 := Lib.hid hP0
  clear hw0 hP0
  go_loopw [20] (fun i wr => ∃ j : Nat, j ≤ k ∧ i = .int .i64 (j : Int) ∧ (powQ a j).code = 0 ∧ PowAt w wr w.heap.size a (powQ a j)) (fun i _ => k - (intOf i).toNat)
  case atStart => exact ⟨0, Nat.zero_le _, rfl, HC.out, HP0.out⟩
  case round =>
    obtain ⟨j, hj, rfl, hcj, hPj⟩ := hrel
    obtain ⟨q, hq⟩ : ∃ q, powQ a j = q := ⟨_, rfl⟩
    rw [hq] at hcj hPj
    have HCJ := Lib.hid hcj
    have HQ := Lib.hid hq
    have HQO := Lib.hid (show q.ok by rw [← hq]; exact powQ_ok HA.out j)
    clear hcj hq
    obtain ⟨hv, ⟨z1, z2, z3⟩, hcA, hrR, hoO, hpP⟩ := hPj
    have HPJ := Lib.hid (show PowAt w wr w.heap.size a q from ⟨hv, ⟨z1, z2, z3⟩, hcA, hrR, hoO, hpP⟩)
    by_cases hlt : j < k
    · have hlt' : (j : Int) < (k : Int) := by omega
      have hM := Lib.hid (fun w => by
        have := decMul_any q.neg q.dig q.exp a.neg a.dig a.exp w HQO.out.1 HA.out.1
        rw [mulQ_val q a] at this
        unfold NumC.val at this
        exact this : ∀ w : World, Calls Tryd.prog 62 #[.agg #[.bool q.neg, .string q.dig, .int .i64 q.exp], .agg #[.bool a.neg, .string a.dig, .int .i64 a.exp]] w fun e w' => e = .returned (.tuple #[.agg #[.bool (mulQ q a).neg, .string (mulQ q a).dig, .int .i64 (mulQ q a).exp], .int .i64 (mulQ q a).code]) ∧ Below w.heap.size w w')
      obtain ⟨r, hr⟩ : ∃ r, mulQ q a = r := ⟨_, rfl⟩
      rw [hr] at hM
      have HR := Lib.hid hr
      clear hr
      have HRO := Lib.hid (show r.ok by rw [← HR.out]; exact mulQ_ok q a)
      have HNEXT := Lib.hid (show powQ a (j + 1) = r by rw [show powQ a (j + 1) = if (powQ a j).code = 0 then mulQ (powQ a j) a else powQ a j from rfl, HQ.out, if_pos HCJ.out, HR.out])
      go_wp2_with fail
      refine (hM.out _).mono ?_
      rintro e w1 ⟨rfl, hb1⟩
      have HK := Lib.hid (HPJ.out.kept hb1)
      clear hv z1 z2 z3 hcA hrR hoO hpP hb1
      obtain ⟨hv, ⟨z1, z2, z3⟩, hcA, hrR, hoO, hpP⟩ := HK.out
      have d1 : ¬ (w.heap.size + 1 = w1.heap.size) := Nat.ne_of_lt z2
      have d2 : ¬ (w1.heap.size = w.heap.size + 1) := Nat.ne_of_gt z2
      have d3 : ¬ (w.heap.size + 1 + 1 + 1 = w1.heap.size) := Nat.ne_of_lt z3
      have d4 : ¬ (w1.heap.size = w.heap.size + 1 + 1 + 1) := Nat.ne_of_gt z3
      have d5 : ¬ (w.heap.size = w1.heap.size) := Nat.ne_of_lt z1
      have d6 : ¬ (w1.heap.size = w.heap.size) := Nat.ne_of_gt z1
      by_cases hrc : r.code = 0
      · have hrb : (r.code == 0) = true := beq_iff_eq.2 hrc
        have HRC := Lib.hid hrc
        clear hrc
        go_wp2
        refine ⟨⟨j + 1, by omega, by go_num, by rw [HNEXT.out]; exact HRC.out, ?_⟩, by simp [intOf]; omega⟩
        rw [HNEXT.out]
        exact (HK.out.put (Nat.le_refl _) r).kept ((Below.refl _ _).alloc (Nat.le_refl _) _)
      · have hrb : (r.code == 0) = false := beq_eq_false_iff_ne.2 hrc
        have HEND := Lib.hid (show powDown a k = .tuple #[.agg #[.bool false, .string ⟨#[]⟩, .int .i64 0], .int .i64 r.code] by
          have e : powQ a k = r := by
            rw [← HNEXT.out]
            exact powQ_stay (by rw [HNEXT.out]; exact hrc) k (by omega)
          unfold powDown
          rw [e, if_neg hrc])
        clear hrc
        go_wp2
        refine bodyPost_ret (v := .tuple #[.agg #[.bool false, .string ⟨#[]⟩, .int .i64 0], .int .i64 r.code]) (by simp [results, Tryd.results69, go_sem, *]) rfl ?_
        exact ⟨by rw [HEND.out], (set_three hv (b := w.heap.size + 1) (by omega) _ _ _).alloc (set_three hv (b := w.heap.size + 1) (by omega) _ _ _).size _⟩
    · have hjk : j = k := by omega
      have hlt' : ¬ (j : Int) < (k : Int) := by omega
      obtain ⟨r, hr⟩ := divV_num false ⟨#[49]⟩ 0 q.neg q.dig q.exp
      have hD := Lib.hid (fun w => by
        have := decDiv_all false ⟨#[49]⟩ 0 q.neg q.dig q.exp w (by decide) HQO.out.1
        rw [hr] at this
        unfold NumC.val at this
        exact this : ∀ w : World, Calls Tryd.prog 64 #[.agg #[.bool false, .string ⟨#[49]⟩, .int .i64 0], .agg #[.bool q.neg, .string q.dig, .int .i64 q.exp]] w fun e w' => e = .returned (.tuple #[.agg #[.bool r.neg, .string r.dig, .int .i64 r.exp], .int .i64 r.code]) ∧ Below w.heap.size w w')
      have HEND := Lib.hid (show powDown a k = .tuple #[.agg #[.bool r.neg, .string r.dig, .int .i64 r.exp], .int .i64 r.code] by
        unfold powDown
        rw [← hjk, HQ.out, if_pos HCJ.out, hr]; rfl)
      clear hlt hjk hr
      go_wp2_with fail
      refine (hD.out _).mono ?_
      rintro e w1 ⟨rfl, hb1⟩
      have HK := Lib.hid (HPJ.out.kept hb1)
      clear hv z1 z2 z3 hcA hrR hoO hpP hb1
      obtain ⟨hv, ⟨z1, z2, z3⟩, hcA, hrR, hoO, hpP⟩ := HK.out
      go_wp2
      refine bodyPost_ret (v := .tuple #[.agg #[.bool r.neg, .string r.dig, .int .i64 r.exp], .int .i64 r.code]) (by simp [results, Tryd.results69, go_sem, *]) rfl ?_
      exact ⟨by rw [HEND.out], set_three hv (b := w.heap.size + 1) (by omega) _ _ _⟩
end Go.Proofs.YtbfkmpignbppfaaDoor

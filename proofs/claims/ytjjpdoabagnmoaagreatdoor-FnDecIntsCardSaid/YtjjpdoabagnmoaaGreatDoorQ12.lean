/-
  Texts of this claim in one file, in build order: DecIntsWalk. Each says ahead what it proves and under which conditions.
-/
import Derived.Test.YtjjpdoabagnmoaaGreatDoorQ01
import Derived.Test.YtjjpdoabagnmoaaGreatDoorQ02
import Derived.Test.YtjjpdoabagnmoaaGreatDoorQ11
import Derived.Deep.DeepCutAuto
import Derived.Deep.RegionHeld3
import Derived.Handy
import Derived.Deep.DrawnRows
/-
  The walk of FnDecInts, out of the contracts. Condition: the table of strconv stands in memory.
-/
namespace Go.Proofs.YtjjpdoabagnmoaaGreatDoor
open Go.RowKit
set_option linter.unusedVariables false
set_option linter.unusedSimpArgs false

theorem ten20 : (10 : Nat) ^ 20 = 100000000000000000000 := by decide
theorem mul_small {a b : Int} (h1 : -1000000 ≤ a) (h2 : a ≤ 1000000) (h3 : -2000000 ≤ b) (h4 : b ≤ 2000000) : -2000000000000 ≤ a * b ∧ a * b ≤ 2000000000000 := by
  have h : (a * b).natAbs ≤ 1000000 * 2000000 := by
    rw [Int.natAbs_mul]; exact Nat.mul_le_mul (by omega) (by omega)
  omega
theorem quot_small {a b : Int} (h1 : -1000000 ≤ a) (h2 : a ≤ 1000000) : -1000000 ≤ a.tdiv b ∧ a.tdiv b ≤ 1000000 := by
  have h : (a.tdiv b).natAbs ≤ a.natAbs := by
    rw [Int.natAbs_tdiv]; exact Nat.div_le_self _ _
  omega
theorem rem_small {a b : Int} (h1 : -1000000 ≤ a) (h2 : a ≤ 1000000) : -1000000 ≤ a.tmod b ∧ a.tmod b ≤ 1000000 := by
  have h : (a.tmod b).natAbs ≤ a.natAbs := by
    rw [Int.natAbs_tmod]; exact Nat.mod_le _ _
  omega
theorem pick_small {q1 q3 : Nat} {c : Int} (hc : c = 1 ∨ c = 7 ∨ c = 1000) (h1 : q1 < 1999) (h3 : q3 < 1000) :
    -500 ≤ IntKind.i64.wrap (IntKind.i64.wrap (IntKind.i64.wrap ((q1 : Int) * c) + (q3 : Int)) - 500) ∧
    IntKind.i64.wrap (IntKind.i64.wrap (IntKind.i64.wrap ((q1 : Int) * c) + (q3 : Int)) - 500) ≤ 2000000 := by
  obtain ⟨v, hv⟩ : ∃ v, (q1 : Int) * c = v := ⟨_, rfl⟩
  have hb : 0 ≤ v ∧ v ≤ 1998000 := by rcases hc with rfl | rfl | rfl <;> omega
  rw [hv, IntWalk.i64_in v (by omega), IntWalk.i64_in (v + (q3 : Int)) (by omega), IntWalk.i64_in (v + (q3 : Int) - 500) (by omega)]
  omega
attribute [local go_sem ↓] Go.wp_at_zero Go.wp_at_succ
set_option maxRecDepth 100000 in
set_option maxHeartbeats 8000000 in
theorem fnDecInts_walk (w : World) (hT : PowTab w) (a : Option Addr) (len cap : Nat) (z : List Int) (hr : IsRow .u8 w a len cap z) (a2 : Option Addr) (len2 cap2 : Nat) (z2 : List Int) (hr2 : IsRow .u8 w a2 len2 cap2 z2) :
    Calls Tryz.prog 7 #[.slice a len cap, .slice a2 len2 cap2] w fun e w' => e = .returned (.bool true) ∧ Below w.heap.size w w' := by
  obtain ⟨-, -, hmax, -⟩ := isRow_row hr
  obtain ⟨-, -, hmax2, -⟩ := isRow_row hr2
  by_cases hb : 1048576 < len
  · have HBG := Lib.hid (decide_eq_true hb)
    go_enter Tryz.func7, Tryz.ntmps7
    go_wp2_with fail
    refine (big_any a len cap _ hmax).mono ?_
    rintro e w1 ⟨rfl, hw1⟩
    obtain rfl : w = w1 := hw1.symm
    rw [HBG.out]
    go_wp2
    go_ret
    exact ⟨rfl, Below.refl _ _⟩
  · have HBG := Lib.hid (decide_eq_false hb)
    by_cases hb2 : 1048576 < len2
    · have HBG2 := Lib.hid (decide_eq_true hb2)
      go_enter Tryz.func7, Tryz.ntmps7
      go_wp2_with fail
      refine (big_any a len cap _ hmax).mono ?_
      rintro e w1 ⟨rfl, hw1⟩
      obtain rfl : w = w1 := hw1.symm
      rw [HBG.out]
      go_wp2_with fail
      refine (big_any a2 len2 cap2 _ hmax2).mono ?_
      rintro e w1 ⟨rfl, hw1⟩
      obtain rfl : w = w1 := hw1.symm
      rw [HBG2.out]
      go_wp2
      go_ret
      exact ⟨rfl, Below.refl _ _⟩
    · have HBG2 := Lib.hid (decide_eq_false hb2)
      go_enter Tryz.func7, Tryz.ntmps7
      go_wp2_with fail
      refine (big_any a len cap _ hmax).mono ?_
      rintro e w1 ⟨rfl, hw1⟩
      obtain rfl : w = w1 := hw1.symm
      rw [HBG.out]
      go_wp2_with fail
      refine (big_any a2 len2 cap2 _ hmax2).mono ?_
      rintro e w1 ⟨rfl, hw1⟩
      obtain rfl : w = w1 := hw1.symm
      rw [HBG2.out]
      go_wp2_with fail
      refine (lawPick_any a len cap z 1 1999 _ hr (by omega) (by omega) (by omega) (by omega)).mono ?_
      rintro e w1 ⟨r1, rfl, hr1, hb1⟩
      obtain rfl : w = w1 := hb1
      go_wp2_with fail
      refine (lawPick_any a len cap z 5 1000 _ hr (by omega) (by omega) (by omega) (by omega)).mono ?_
      rintro e w2 ⟨r3, rfl, hr3, hb2'⟩
      obtain rfl : w = w2 := hb2'
      obtain ⟨A, hA⟩ : ∃ A : Int, (r1 : Int) * 1000 + (r3 : Int) - 999500 = A := ⟨_, rfl⟩
      have hA1 : -1000000 ≤ A := by omega
      have hA2 : A ≤ 1000000 := by omega
      go_upto_region 4 with fail
      clear hA hr1 hr3
      go_cut [6] (fun bv wx => ∃ B : Int, bv = .int .i64 B ∧ (-500 ≤ B ∧ B ≤ 2000000) ∧ Below w.heap.size w wx)
      case first =>
        have hB0 : Below w.heap.size w w := Below.refl _ _
        have hp1 : ∀ (w' : World), Below w.heap.size w w' → Calls Tryz.prog 17 #[.slice a2 len2 cap2, .int .i64 2, .int .i64 1999] w' (Chosen 1999 w') := fun w' hb => lawPick_any a2 len2 cap2 z2 2 1999 w' (hr2.below hb) (by omega) (by omega) (by omega) (by omega)
        have HP1 := Lib.hid hp1
        have hp2 : ∀ (w' : World), Below w.heap.size w w' → Calls Tryz.prog 17 #[.slice a2 len2 cap2, .int .i64 9, .int .i64 3] w' (Chosen 3 w') := fun w' hb => lawPick_any a2 len2 cap2 z2 9 3 w' (hr2.below hb) (by omega) (by omega) (by omega) (by omega)
        have HP2 := Lib.hid hp2
        have hp3 : ∀ (w' : World), Below w.heap.size w w' → Calls Tryz.prog 17 #[.slice a2 len2 cap2, .int .i64 6, .int .i64 1000] w' (Chosen 1000 w') := fun w' hb => lawPick_any a2 len2 cap2 z2 6 1000 w' (hr2.below hb) (by omega) (by omega) (by omega) (by omega)
        have HP3 := Lib.hid hp3
        clear hr hr2 hmax hmax2 hb hb2 HBG HBG2 hp1 hp2 hp3
        have hcell : ∀ q2 : Nat, q2 < 3 → ∃ c : Int, (c = 1 ∨ c = 7 ∨ c = 1000) ∧ ∀ (w' : World), (w'.alloc (.cells #[.int .i64 1, .int .i64 7, .int .i64 1000] 3)).cell? ⟨w'.heap.size, q2, none⟩ = some (.int .i64 c) := by
          intro q2 hq
          rcases (by omega : q2 = 0 ∨ q2 = 1 ∨ q2 = 2) with rfl | rfl | rfl
          · exact ⟨1, .inl rfl, fun w' => by rw [new_cell]; rfl⟩
          · exact ⟨7, .inr (.inl rfl), fun w' => by rw [new_cell]; rfl⟩
          · exact ⟨1000, .inr (.inr rfl), fun w' => by rw [new_cell]; rfl⟩
        have HCELL := Lib.hid hcell
        clear hcell
        go_region_with
          (first
            | (go_at_call 17; (with_reducible refine (HP1.out _ (by first | (with_reducible exact hB0) | (with_reducible exact Below.drew hB0) | (repeat (first | exact Below.refl _ _ | assumption | refine Below.drew ?_ | refine Go.below_drewN ?_ _ | (refine Below.alloc ?_ (by first | exact Nat.le_refl _ | (simp; done) | (simp; omega) | (simp at *; omega)) _) | (refine Below.setCell ?_ (by first | exact Nat.le_refl _ | (simp; done) | (simp; omega)) _) | (refine Below.trans ?_ (Below.mono (by assumption) (by first | exact Nat.le_refl _ | (simp; done) | (simp; omega) | (simp at *; omega)))))))).mono ?_); rintro e w3 ⟨q1, rfl, hq1, rfl⟩)
            | (go_at_call 17; (with_reducible refine (HP2.out _ (by first | (with_reducible exact hB0) | (with_reducible exact Below.drew hB0) | (repeat (first | exact Below.refl _ _ | assumption | refine Below.drew ?_ | refine Go.below_drewN ?_ _ | (refine Below.alloc ?_ (by first | exact Nat.le_refl _ | (simp; done) | (simp; omega) | (simp at *; omega)) _) | (refine Below.setCell ?_ (by first | exact Nat.le_refl _ | (simp; done) | (simp; omega)) _) | (refine Below.trans ?_ (Below.mono (by assumption) (by first | exact Nat.le_refl _ | (simp; done) | (simp; omega) | (simp at *; omega)))))))).mono ?_); rintro e w4 ⟨q2, rfl, hq2, rfl⟩; obtain ⟨c, hc, hcc⟩ := HCELL.out q2 hq2; have hq2' : (q2 : Int) < 3 := by omega)
            | (go_at_call 17; (with_reducible refine (HP3.out _ (by first | (with_reducible exact hB0) | (with_reducible exact Below.drew hB0) | (repeat (first | exact Below.refl _ _ | assumption | refine Below.drew ?_ | refine Go.below_drewN ?_ _ | (refine Below.alloc ?_ (by first | exact Nat.le_refl _ | (simp; done) | (simp; omega) | (simp at *; omega)) _) | (refine Below.setCell ?_ (by first | exact Nat.le_refl _ | (simp; done) | (simp; omega)) _) | (refine Below.trans ?_ (Below.mono (by assumption) (by first | exact Nat.le_refl _ | (simp; done) | (simp; omega) | (simp at *; omega)))))))).mono ?_); rintro e w5 ⟨q3, rfl, hq3, rfl⟩))
        all_goals
          go_wp2_with fail
          go_meet
          refine ⟨_, rfl, pick_small hc hq1 hq3, ?_⟩
          first | (with_reducible exact hB0) | (with_reducible exact Below.drew hB0) | (repeat (first | exact Below.refl _ _ | assumption | refine Below.drew ?_ | refine Go.below_drewN ?_ _ | (refine Below.alloc ?_ (by first | exact Nat.le_refl _ | (simp; done) | (simp; omega) | (simp at *; omega)) _) | (refine Below.setCell ?_ (by first | exact Nat.le_refl _ | (simp; done) | (simp; omega)) _) | (refine Below.trans ?_ (Below.mono (by assumption) (by first | exact Nat.le_refl _ | (simp; done) | (simp; omega) | (simp at *; omega))))))
      case rest =>
        obtain ⟨B, rfl, ⟨hB1, hBb⟩, hB3⟩ := hcut
        obtain ⟨m1, m2⟩ := mul_small hA1 hA2 (show -2000000 ≤ B by omega) hBb
        obtain ⟨q1, q2⟩ := quot_small (b := B) hA1 hA2
        obtain ⟨r1', r2'⟩ := rem_small (b := B) hA1 hA2
        obtain ⟨na, ua, xa, HIA⟩ := int_num A (by rw [ten20]; omega)
        obtain ⟨nb, ub, xb, HIB⟩ := int_num B (by rw [ten20]; omega)
        obtain ⟨SV, hSV⟩ : ∃ SV, A + B = SV := ⟨_, rfl⟩
        obtain ⟨MV, hMV⟩ : ∃ MV, A * B = MV := ⟨_, rfl⟩
        obtain ⟨RV, hRV⟩ : ∃ RV, A.tmod B = RV := ⟨_, rfl⟩
        obtain ⟨TV, hTV⟩ : ∃ TV, A.tdiv B = TV := ⟨_, rfl⟩
        rw [hMV] at m1 m2
        rw [hTV] at q1 q2
        rw [hRV] at r1' r2'
        have s1 : -3000000 ≤ SV ∧ SV ≤ 3000000 := by omega
        obtain ⟨n1, u1, x1, HI1⟩ := int_num SV (by rw [ten20]; omega)
        obtain ⟨n2, u2, x2, HI2⟩ := int_num MV (by rw [ten20]; omega)
        obtain ⟨n3, u3, x3, HI3⟩ := int_num RV (by rw [ten20]; omega)
        obtain ⟨n5, u5, x5, HI5⟩ := int_num TV (by rw [ten20]; omega)
        have hbs : ∀ {c : Int} {n : Bool} {u : ByteArray} {x : Int}, IntNum c n u x → u.size ≤ maxLen ∧ (Lit.int .i64 x).wf = true := fun h => ⟨by have := h.size; unfold maxLen; omega, wf_of ⟨by have := h.x0; omega, by have := h.x20; omega⟩⟩
        have HOA := Lib.hid (fun w hT => decOf_int HIA (by omega) (by omega) w hT)
        have HOB := Lib.hid (fun w hT => decOf_int HIB (by omega) (by omega) w hT)
        have HOS := Lib.hid (fun w hT => decOf_int HI1 (by omega) (by omega) w hT)
        have HOM := Lib.hid (fun w hT => decOf_int HI2 (by omega) (by omega) w hT)
        have HOR := Lib.hid (fun w hT => decOf_int HI3 (by omega) (by omega) w hT)
        have HOT := Lib.hid (fun w hT => decOf_int HI5 (by omega) (by omega) w hT)
        have HWH := Lib.hid (fun w => decWhole_int HI1 (by omega) (by omega) w)
        have HADD := Lib.hid (fun w => by
          have := implDecAdd_yes na ua xa nb ub xb w (hbs HIA).1 (hbs HIA).2 (hbs HIB).1 (hbs HIB).2 HIA.ok HIB.ok
          rw [add_int HIA HIB, hSV, HI1.form] at this
          exact this : ∀ w : World, Calls Tryz.prog 22 #[.agg #[.bool na, .string ua, .int .i64 xa], .agg #[.bool nb, .string ub, .int .i64 xb]] w fun e w' => e = .returned (.tuple #[.agg #[.bool n1, .string u1, .int .i64 x1], .int .i64 0]) ∧ Below w.heap.size w w')
        have HMUL := Lib.hid (fun w => by
          have := implDecMul_yes na ua xa nb ub xb w (hbs HIA).1 (hbs HIA).2 (hbs HIB).1 (hbs HIB).2 HIA.ok HIB.ok
          rw [mul_int HIA HIB, hMV, HI2.form] at this
          exact this : ∀ w : World, Calls Tryz.prog 23 #[.agg #[.bool na, .string ua, .int .i64 xa], .agg #[.bool nb, .string ub, .int .i64 xb]] w fun e w' => e = .returned (.tuple #[.agg #[.bool n2, .string u2, .int .i64 x2], .int .i64 0]) ∧ Below w.heap.size w w')
        have HDIV := Lib.hid (fun w => implDecDiv_yes na ua xa nb ub xb w (hbs HIA).1 (hbs HIA).2 (hbs HIB).1 (hbs HIB).2 HIA.ok HIB.ok)
        have HMOD := Lib.hid (fun (h0 : B ≠ 0) w => by
          have := implDecMod_yes na ua xa nb ub xb w (hbs HIA).1 (hbs HIA).2 (hbs HIB).1 (hbs HIB).2 HIA.ok HIB.ok
          rw [mod_int HIA HIB h0, hRV, HI3.form] at this
          exact this : B ≠ 0 → ∀ w : World, Calls Tryz.prog 26 #[.agg #[.bool na, .string ua, .int .i64 xa], .agg #[.bool nb, .string ub, .int .i64 xb]] w fun e w' => e = .returned (.tuple #[.agg #[.bool n3, .string u3, .int .i64 x3], .int .i64 0]) ∧ Below w.heap.size w w')
        have HQ := Lib.hid (fun (h0 : B ≠ 0) => by
          have := div_int HIA HIB h0 (by omega) (by omega)
          rw [hTV] at this
          exact this : B ≠ 0 → _)
        have HNIL := Lib.hid (HIB.nil)
        have HI5' := Lib.hid HI5
        have ws : IntKind.i64.wrap (A + B) = SV := by rw [hSV]; exact IntWalk.i64_in _ (by omega)
        have wm : IntKind.i64.wrap (A * B) = MV := by rw [hMV]; exact IntWalk.i64_in _ (by omega)
        have wr : IntKind.i64.wrap (A.tmod B) = RV := by rw [hRV]; exact IntWalk.i64_in _ (by omega)
        have wt : IntKind.i64.wrap (A.tdiv B) = TV := by rw [hTV]; exact IntWalk.i64_in _ (by omega)
        have wt2 : IntKind.i64.wrap TV = TV := IntWalk.i64_in _ (by omega)
        clear hSV hMV wr
        have hss : (SV != SV) = false := by simp
        clear HIA HIB HI1 HI2 HI3 HI5 hbs
        go_wp2_with fail
        refine (HOA.out _ (hT.below hB3)).mono ?_
        rintro e w4 ⟨rfl, hb4⟩
        have hB4 := hB3.trans (hb4.mono hB3.size)
        clear hb4 hB3
        go_wp2_with fail
        refine (HOB.out _ (hT.below hB4)).mono ?_
        rintro e w5 ⟨rfl, hb5⟩
        have hB5 := hB4.trans (hb5.mono hB4.size)
        clear hb5 hB4
        go_upto_region 6 with fail
        obtain ⟨w6, hw6, hz6, hv6, hc6⟩ := two_laid w5 na ua xa nb ub xb
        rw [hw6]
        have hB6 := hB5.trans (hv6.mono hB5.size)
        clear hw6 hv6
        have hlo5 : w.heap.size ≤ w5.heap.size := hB5.size
        go_wp2_with fail
        refine (HADD.out _).mono ?_
        rintro e w7 ⟨rfl, hb7⟩
        obtain ⟨hB7, hz7, hc7⟩ := two_kept hb7 hz6 hB6 hc6
        clear hb7 hz6 hB6 hc6
        have hp9 : w5.heap.size + 1 < w7.heap.size := hz7.2
        go_upto_region 7 with fail
        obtain ⟨w8, hw8, hy8, hv8, hd8, hf8⟩ := one_laid w7 n1 u1 x1
        rw [hw8]
        obtain ⟨hB8, hz8, hc8⟩ := two_kept hv8 hz7 hB7 hc7
        have N8 : NumAt w8 w7.heap.size n1 u1 x1 := ⟨hy8, hd8, hf8⟩
        clear hw8 hv8 hz7 hB7 hc7 hy8 hd8 hf8
        go_wp2_with fail
        refine (HMUL.out _).mono ?_
        rintro e w9 ⟨rfl, hb9⟩
        obtain ⟨hB9, hz9, hc9⟩ := two_kept hb9 hz8 hB8 hc8
        have N9 := N8.below hb9
        clear hb9 hz8 hB8 hc8 N8
        have hp11 : w7.heap.size < w9.heap.size := N9.hz
        go_upto_region 8 with fail
        obtain ⟨w10, hw10, hy10, hv10, hd10, hf10⟩ := one_laid w9 n2 u2 x2
        rw [hw10]
        obtain ⟨hB10, hz10, hc10⟩ := two_kept hv10 hz9 hB9 hc9
        have N10 := N9.below hv10
        have P7 : w10.cell? ⟨w7.heap.size, 0, none⟩ = some (.bool n1) ∧ w10.cell? ⟨w7.heap.size, 1, none⟩ = some (.string u1) ∧ w10.cell? ⟨w7.heap.size, 2, none⟩ = some (.int .i64 x1) ∧ w10.cell? ⟨w9.heap.size, 0, none⟩ = some (.bool n2) ∧ w10.cell? ⟨w9.heap.size, 1, none⟩ = some (.string u2) ∧ w10.cell? ⟨w9.heap.size, 2, none⟩ = some (.int .i64 x2) := ⟨N10.hc.1, N10.hc.2.1, N10.hc.2.2, hd10⟩
        have Z7 : w7.heap.size < w10.heap.size ∧ w9.heap.size < w10.heap.size := ⟨N10.hz, hy10⟩
        have HC10 := Lib.hid (And.intro hz10 hc10)
        clear hw10 hv10 hz9 hB9 hc9 N9 N10 hy10 hd10 hf10 hz10 hc10
        go_region_held3 (fun w' => w'.cell? ⟨w7.heap.size, 0, none⟩ = some (.bool n1) ∧ w'.cell? ⟨w7.heap.size, 1, none⟩ = some (.string u1) ∧ w'.cell? ⟨w7.heap.size, 2, none⟩ = some (.int .i64 x1) ∧ w'.cell? ⟨w9.heap.size, 0, none⟩ = some (.bool n2) ∧ w'.cell? ⟨w9.heap.size, 1, none⟩ = some (.string u2) ∧ w'.cell? ⟨w9.heap.size, 2, none⟩ = some (.int .i64 x2)) (first | assumption | go_keep)
          (first
            | (go_at_call_of 21 (Value.int IntKind.i64 SV); refine (HOS.out _ (hT.below (by first | assumption | exact Below.drew (by assumption)))).mono ?_; rintro e w11 ⟨rfl, hb11⟩; obtain ⟨hB11, hz11, hc11⟩ := two_kept hb11 (by assumption) (v := w) (by first | assumption | exact Below.drew (by assumption)) (by assumption); have HC11 := Lib.hid (two_kept (v := w10) (by first | exact hb11 | exact undrew hb11) HC10.out.1 (Below.refl _ _) HC10.out.2); clear hb11)
            | (go_at_call_of 21 (Value.int IntKind.i64 MV); refine (HOM.out _ (hT.below (by first | assumption | exact Below.drew (by assumption)))).mono ?_; rintro e w12 ⟨rfl, hb12⟩; obtain ⟨hB12, hz12, hc12⟩ := two_kept hb12 (by assumption) (v := w) (by first | assumption | exact Below.drew (by assumption)) (by assumption); have HC12 := Lib.hid (two_kept (v := w11) (by first | exact hb12 | exact undrew hb12) HC11.out.2.1 (Below.refl _ _) HC11.out.2.2); clear hb12))
        obtain ⟨-, hz12x, hc12x⟩ := HC12.out
        clear HC10 HC11 HC12 hB10 hB11 hz11 hc11 P7 Z7
        go_wp2_with fail
        refine (HWH.out _).mono ?_
        rintro e w13 ⟨rfl, hb13⟩
        obtain ⟨hB13, hz13, hc13⟩ := two_kept hb13 hz12x hB12 hc12x
        clear hb13 hz12x hB12 hc12x hz12 hc12
        by_cases h0 : B = 0
        · have e0 : (B == 0) = true := by rw [h0]; rfl
          have HN := Lib.hid (HNIL.out h0)
          clear h0
          go_wp2_with fail
          have hdv : divV na ua xa nb ub xb = .tuple #[.agg #[.bool false, .string ⟨#[]⟩, .int .i64 0], .int .i64 2] := by unfold divV; rw [if_pos HN.out]; rfl
          have HD0 := HDIV.out
          rw [hdv] at HD0
          refine (HD0 _).mono ?_
          rintro e w14 ⟨rfl, hb14⟩
          clear HD0 hdv
          go_wp2
          go_ret
          exact ⟨rfl, below_new (hB13.trans (hb14.mono hB13.size)) _⟩
        · have e0 : (B == 0) = false := by simpa using h0
          obtain ⟨n4, u4, x4, hq4, hok4, hs4, hc4⟩ := HQ.out h0
          have HD := HDIV.out
          rw [hq4] at HD
          have HD2 := Lib.hid HD
          have HI := Lib.hid (fun w => decInt_quot HI5'.out hok4 hs4 hc4 w)
          have HM := Lib.hid (HMOD.out h0)
          have h0n : ¬ (B = 0) := h0
          clear h0 hq4 hok4 hs4 hc4 HD HDIV HMOD HQ HI5'
          go_wp2_with fail
          refine (HM.out _).mono ?_
          rintro e w14 ⟨rfl, hb14⟩
          obtain ⟨hB14, hz14, hc14⟩ := two_kept hb14 hz13 hB13 hc13
          clear hb14 hz13 hB13 hc13
          have hp15 : w5.heap.size + 1 < w14.heap.size := hz14.2
          go_wp2_with fail
          obtain ⟨w15, hw15, hy15, hv15, hd15, hf15⟩ := one_laid w14 n3 u3 x3
          rw [hw15]
          obtain ⟨hB15, hz15, hc15⟩ := two_kept hv15 hz14 hB14 hc14
          have N15 : NumAt w15 w14.heap.size n3 u3 x3 := ⟨hy15, hd15, hf15⟩
          clear hw15 hv15 hz14 hB14 hc14 hy15 hd15 hf15
          refine (HD2.out _).mono ?_
          rintro e w16 ⟨rfl, hb16⟩
          obtain ⟨hB16, hz16, hc16⟩ := two_kept hb16 hz15 hB15 hc15
          have N16 := N15.below hb16
          have hp17 : w14.heap.size < w16.heap.size := N16.hz
          clear hb16 hz15 hB15 hc15 N15
          go_upto_region 18 with fail
          obtain ⟨w17, hw17, hy17, hv17, hd17, hf17⟩ := one_laid w16 n4 u4 x4
          rw [hw17]
          obtain ⟨hB17, -, -⟩ := two_kept hv17 hz16 hB16 hc16
          have N17 := N16.below hv17
          have P17 : w17.cell? ⟨w14.heap.size, 0, none⟩ = some (.bool n3) ∧ w17.cell? ⟨w14.heap.size, 1, none⟩ = some (.string u3) ∧ w17.cell? ⟨w14.heap.size, 2, none⟩ = some (.int .i64 x3) ∧ w17.cell? ⟨w16.heap.size, 0, none⟩ = some (.bool n4) ∧ w17.cell? ⟨w16.heap.size, 1, none⟩ = some (.string u4) ∧ w17.cell? ⟨w16.heap.size, 2, none⟩ = some (.int .i64 x4) := ⟨N17.hc.1, N17.hc.2.1, N17.hc.2.2, hd17⟩
          have Z17 : w14.heap.size < w17.heap.size ∧ w16.heap.size < w17.heap.size := ⟨N17.hz, hy17⟩
          clear hw17 hv17 hz16 hB16 hc16 hy17 hd17 hf17 N17 N16
          have h33 : (n3 == n3) = true := by simp
          go_region_held3 (fun w' => w'.cell? ⟨w14.heap.size, 0, none⟩ = some (.bool n3) ∧ w'.cell? ⟨w14.heap.size, 1, none⟩ = some (.string u3) ∧ w'.cell? ⟨w14.heap.size, 2, none⟩ = some (.int .i64 x3) ∧ w'.cell? ⟨w16.heap.size, 0, none⟩ = some (.bool n4) ∧ w'.cell? ⟨w16.heap.size, 1, none⟩ = some (.string u4) ∧ w'.cell? ⟨w16.heap.size, 2, none⟩ = some (.int .i64 x4)) (first | assumption | go_keep)
            (first
              | (go_at_call_of 21 (Value.int IntKind.i64 RV); (with_reducible refine (HOR.out _ (hT.below (by first | assumption | exact Below.drew (by assumption)))).mono ?_); rintro e w18 ⟨rfl, hb18⟩; obtain ⟨hB18, hz18, hc18⟩ := two_kept hb18 (by assumption) (v := w) (by first | assumption | exact Below.drew (by assumption)) (by assumption); clear hb18)
              | (go_at_call 27; (with_reducible refine (HI.out _).mono ?_); rintro e w19 ⟨rfl, hb19⟩; obtain ⟨hB19, hz19, hc19⟩ := two_kept hb19 (by assumption) (v := w) (by first | assumption | exact Below.drew (by assumption)) (by assumption); clear hb19)
              | (go_at_call_of 21 (Value.int IntKind.i64 TV); (with_reducible refine (HOT.out _ (hT.below (by first | assumption | exact Below.drew (by assumption)))).mono ?_); rintro e w20 ⟨rfl, hb20⟩; obtain ⟨hB20, hz20, hc20⟩ := two_kept hb20 (by assumption) (v := w) (by first | assumption | exact Below.drew (by assumption)) (by assumption); clear hb20))
          go_wp2
          go_ret
          exact ⟨rfl, by assumption⟩
end Go.Proofs.YtjjpdoabagnmoaaGreatDoor

/-
  Two numbers by one power of ten: the contracts of digits and aligned, of l03Dig and l03Level. Condition: numbers in form.
-/
import Derived.Test.YtjjpdoabagnmoaaDoorDecNeg
import Derived.Test.YtjjpdoabagnmoaaDoorForm
import Derived.Test.YtjjpdoabagnmoaaDoorShift
import Derived.Test.YtjjpdoabagnmoaaDoorZeros
import Derived.Deep.RegionHeld3
namespace Go.Proofs.YtjjpdoabagnmoaaDoor
open Go.RowKit
set_option linter.unusedVariables false
set_option linter.unusedSimpArgs false

/-- a number's digits -/
def dg (s : ByteArray) : ByteArray := if s.size = 0 then ⟨#[48]⟩ else s
theorem dg_nil {s : ByteArray} (h : s.size = 0) : dg s = ⟨#[48]⟩ := if_pos h
theorem dg_some {s : ByteArray} (h : 0 < s.size) : dg s = s := if_neg (by omega)
/-- a number in form: its bounds -/
theorem dec_facts {n : Bool} {s : ByteArray} {x : Int} (h : decOk n (bs s) x = true) :
    s.size ≤ 20 ∧ -119 ≤ x ∧ x ≤ 99 ∧ Canon (bs (dg s)) ∧ val (bs (dg s)) = val (bs s) ∧ 1 ≤ (dg s).size ∧ (dg s).size ≤ 20 ∧ (n = true → 0 < val (bs s)) ∧ (0 < s.size → 0 < val (bs s)) := by
  by_cases h0 : 0 < s.size
  · have hne : bs s ≠ [] := ne_nil h0
    obtain ⟨c, hv, hl, -⟩ := form_same h hne
    rw [bs_length] at hl
    unfold decOk at h
    rw [if_neg hne] at h
    simp only [Bool.and_eq_true, decide_eq_true_eq, bs_length] at h
    obtain ⟨⟨-, h5⟩, h6⟩ := h
    rw [dg_some h0]
    exact ⟨hl, by omega, by omega, c, rfl, by omega, hl, fun _ => by omega, fun _ => by omega⟩
  · obtain ⟨rfl, rfl, rfl⟩ := decOk_zero h (by omega)
    refine ⟨by decide, by decide, by decide, ?_, rfl, by decide, by decide, (fun h => by cases h), (fun h => absurd h (by decide))⟩
    have : bs (dg ⟨#[]⟩) = dec 0 := by rw [dec_zero]; rfl
    rw [this]; exact dec_canon 0
/-- a number's digits by the lower one of two powers of ten -/
def lvl (s : ByteArray) (x y : Int) : Nat := val (bs s) * 10 ^ (x - min x y).toNat

theorem drew_size (u : World) : u.drew.heap.size = u.heap.size := rfl
/-- two numbers just laid -/
theorem two_laid (w : World) (n : Bool) (s : ByteArray) (x : Int) (m : Bool) (t : ByteArray) (y : Int) :
    ∃ w0, (w.alloc (Obj.cells #[.bool n, .string s, .int .i64 x] 23)).alloc (Obj.cells #[.bool m, .string t, .int .i64 y] 23) = w0 ∧ (w.heap.size < w0.heap.size ∧ w.heap.size + 1 < w0.heap.size) ∧ Below w.heap.size w w0 ∧
      (w0.cell? ⟨w.heap.size, 0, none⟩ = some (.bool n) ∧ w0.cell? ⟨w.heap.size, 1, none⟩ = some (.string s) ∧ w0.cell? ⟨w.heap.size, 2, none⟩ = some (.int .i64 x) ∧ w0.cell? ⟨w.heap.size + 1, 0, none⟩ = some (.bool m) ∧ w0.cell? ⟨w.heap.size + 1, 1, none⟩ = some (.string t) ∧ w0.cell? ⟨w.heap.size + 1, 2, none⟩ = some (.int .i64 y)) := by
  refine ⟨_, rfl, ⟨by simp; omega, by simp⟩, ((Below.refl _ w).alloc (Nat.le_refl _) _).alloc (by simp) _, ?_⟩
  simp
/-- a call leaves them -/
theorem two_kept {w w1 : World} {p q : Nat} {n : Bool} {s : ByteArray} {x : Int} {m : Bool} {t : ByteArray} {y : Int} (hb : Below w.heap.size w w1) (hp : p < w.heap.size ∧ q < w.heap.size) {v : World} (hv : Below v.heap.size v w)
    (h : w.cell? ⟨p, 0, none⟩ = some (.bool n) ∧ w.cell? ⟨p, 1, none⟩ = some (.string s) ∧ w.cell? ⟨p, 2, none⟩ = some (.int .i64 x) ∧ w.cell? ⟨q, 0, none⟩ = some (.bool m) ∧ w.cell? ⟨q, 1, none⟩ = some (.string t) ∧ w.cell? ⟨q, 2, none⟩ = some (.int .i64 y)) :
    Below v.heap.size v w1 ∧ (p < w1.heap.size ∧ q < w1.heap.size) ∧ (w1.cell? ⟨p, 0, none⟩ = some (.bool n) ∧ w1.cell? ⟨p, 1, none⟩ = some (.string s) ∧ w1.cell? ⟨p, 2, none⟩ = some (.int .i64 x) ∧ w1.cell? ⟨q, 0, none⟩ = some (.bool m) ∧ w1.cell? ⟨q, 1, none⟩ = some (.string t) ∧ w1.cell? ⟨q, 2, none⟩ = some (.int .i64 y)) := by
  have c := (bcell hb).1
  rw [c p 0 hp.1, c p 1 hp.1, c p 2 hp.1, c q 0 hp.2, c q 1 hp.2, c q 2 hp.2]
  exact ⟨hv.trans (hb.mono hv.size), ⟨Nat.lt_of_lt_of_le hp.1 hb.size, Nat.lt_of_lt_of_le hp.2 hb.size⟩, h⟩

theorem digits_any (n : Bool) (s : ByteArray) (x : Int) (w : World) :
    Calls Tryd.prog 79 #[.agg #[.bool n, .string s, .int .i64 x]] w fun e w' => e = .returned (.string (dg s)) ∧ Below w.heap.size w w' := by
  by_cases h0 : 0 < s.size
  · have hemp := isEmpty_no h0
    rw [dg_some h0]
    go_enter Tryd.func79, Tryd.ntmps79
    go_wp2
    go_ret
    refine ⟨rfl, ?_⟩
    go_light
    (repeat (first | exact Below.refl _ _ | assumption | refine Below.drew ?_ | refine below_drewN ?_ _ | (refine Below.alloc ?_ (by first | exact Nat.le_refl _ | (simp; done) | (simp; omega) | (simp at *; omega)) _) | (refine Below.setCell ?_ (by first | exact Nat.le_refl _ | (simp; done) | (simp; omega)) _) | (refine Below.trans ?_ (Below.mono (by assumption) (by first | exact Nat.le_refl _ | (simp; done) | (simp; omega) | (simp at *; omega))))))
  · have hemp := isEmpty_yes (s := s) (by omega)
    rw [dg_nil (by omega)]
    go_enter Tryd.func79, Tryd.ntmps79
    go_wp2
    go_ret
    refine ⟨rfl, ?_⟩
    go_light
    (repeat (first | exact Below.refl _ _ | assumption | refine Below.drew ?_ | refine below_drewN ?_ _ | (refine Below.alloc ?_ (by first | exact Nat.le_refl _ | (simp; done) | (simp; omega) | (simp at *; omega)) _) | (refine Below.setCell ?_ (by first | exact Nat.le_refl _ | (simp; done) | (simp; omega)) _) | (refine Below.trans ?_ (Below.mono (by assumption) (by first | exact Nat.le_refl _ | (simp; done) | (simp; omega) | (simp at *; omega))))))

theorem l03Dig_any (n : Bool) (s : ByteArray) (x : Int) (w : World) :
    Calls Tryd.prog 43 #[.agg #[.bool n, .string s, .int .i64 x]] w fun e w' => e = .returned (.string (dg s)) ∧ Below w.heap.size w w' := by
  by_cases h0 : 0 < s.size
  · have hemp := isEmpty_no h0
    rw [dg_some h0]
    go_enter Tryd.func43, Tryd.ntmps43
    go_wp2
    go_ret
    refine ⟨rfl, ?_⟩
    go_light
    (repeat (first | exact Below.refl _ _ | assumption | refine Below.drew ?_ | refine below_drewN ?_ _ | (refine Below.alloc ?_ (by first | exact Nat.le_refl _ | (simp; done) | (simp; omega) | (simp at *; omega)) _) | (refine Below.setCell ?_ (by first | exact Nat.le_refl _ | (simp; done) | (simp; omega)) _) | (refine Below.trans ?_ (Below.mono (by assumption) (by first | exact Nat.le_refl _ | (simp; done) | (simp; omega) | (simp at *; omega))))))
  · have hemp := isEmpty_yes (s := s) (by omega)
    rw [dg_nil (by omega)]
    go_enter Tryd.func43, Tryd.ntmps43
    go_wp2
    go_ret
    refine ⟨rfl, ?_⟩
    go_light
    (repeat (first | exact Below.refl _ _ | assumption | refine Below.drew ?_ | refine below_drewN ?_ _ | (refine Below.alloc ?_ (by first | exact Nat.le_refl _ | (simp; done) | (simp; omega) | (simp at *; omega)) _) | (refine Below.setCell ?_ (by first | exact Nat.le_refl _ | (simp; done) | (simp; omega)) _) | (refine Below.trans ?_ (Below.mono (by assumption) (by first | exact Nat.le_refl _ | (simp; done) | (simp; omega) | (simp at *; omega))))))

set_option maxRecDepth 10000 in
theorem aligned_any (n : Bool) (s : ByteArray) (x : Int) (m : Bool) (t : ByteArray) (y : Int) (w : World) (h1 : decOk n (bs s) x = true) (h2 : decOk m (bs t) y = true) :
    Calls Tryd.prog 69 #[.agg #[.bool n, .string s, .int .i64 x], .agg #[.bool m, .string t, .int .i64 y]] w fun e w' => e = .returned (.tuple #[.string (ofL (dec (lvl s x y))), .string (ofL (dec (lvl t y x))), .int .i64 (min x y)]) ∧ Below w.heap.size w w' := by
  obtain ⟨a1, a2, a3, a4, a5, a6, a7, -, -⟩ := dec_facts h1
  obtain ⟨b1, b2, b3, b4, b5, b6, b7, -, -⟩ := dec_facts h2
  clear h1 h2
  obtain ⟨z, hz⟩ : ∃ z, min x y = z := ⟨_, rfl⟩
  have hzx : z ≤ x := by omega
  have hzy : z ≤ y := by omega
  have hzl : -119 ≤ z := by omega
  have ex : ((x - z).toNat : Int) = x - z := by omega
  have ey : ((y - z).toNat : Int) = y - z := by omega
  have hS := Lib.hid (fun w => by
    have := natShift_any (dg s) (x - z).toNat w a4 (by omega) (by omega)
    rw [a5, ex] at this
    exact this : ∀ w : World, Calls Tryd.prog 83 #[.string (dg s), .int .i64 (x - z)] w fun e w' => e = .returned (.string (ofL (dec (val (bs s) * 10 ^ (x - z).toNat)))) ∧ Below w.heap.size w w')
  have hT := Lib.hid (fun w => by
    have := natShift_any (dg t) (y - z).toNat w b4 (by omega) (by omega)
    rw [b5, ey] at this
    exact this : ∀ w : World, Calls Tryd.prog 83 #[.string (dg t), .int .i64 (y - z)] w fun e w' => e = .returned (.string (ofL (dec (val (bs t) * 10 ^ (y - z).toNat)))) ∧ Below w.heap.size w w')
  have e1 : lvl s x y = val (bs s) * 10 ^ (x - z).toNat := by unfold lvl; rw [hz]
  have e2 : lvl t y x = val (bs t) * 10 ^ (y - z).toNat := by unfold lvl; rw [show min y x = z by omega]
  rw [e1, e2, hz]
  have wx : IntKind.i64.wrap (x - z) = x - z := IntWalk.i64_in _ (by omega)
  have wy : IntKind.i64.wrap (y - z) = y - z := IntWalk.i64_in _ (by omega)
  clear e1 e2 a4 b4 a5 b5 ex ey
  have hl0 : w.heap.size < w.heap.size + 1 + 1 := by omega
  go_enter Tryd.func69, Tryd.ntmps69
  go_wp2_with fail
  obtain ⟨w0, hw0, hz0, hb0, hc0⟩ := two_laid w n s x m t y
  rw [hw0]
  clear hw0
  go_region_held3 (fun w' => w'.cell? ⟨w.heap.size, 0, none⟩ = some (.bool n) ∧ w'.cell? ⟨w.heap.size, 1, none⟩ = some (.string s) ∧ w'.cell? ⟨w.heap.size, 2, none⟩ = some (.int .i64 x) ∧ w'.cell? ⟨w.heap.size + 1, 0, none⟩ = some (.bool m) ∧ w'.cell? ⟨w.heap.size + 1, 1, none⟩ = some (.string t) ∧ w'.cell? ⟨w.heap.size + 1, 2, none⟩ = some (.int .i64 y)) (first | assumption | go_keep)
    (first
      | (go_at_call 79; refine (digits_any _ _ _ _).mono ?_; rintro e w1 ⟨rfl, hb1⟩; obtain ⟨hv1, hz1, hc1⟩ := two_kept hb1 (by assumption) (v := w) (by first | assumption | exact Below.drew (by assumption)) (by assumption); clear hb1)
      | (go_at_call_of 83 (dg s); refine (hS.out _).mono ?_; rintro e w1 ⟨rfl, hb1⟩; obtain ⟨hv1, hz1, hc1⟩ := two_kept hb1 (by assumption) (v := w) (by first | assumption | exact Below.drew (by assumption)) (by assumption); clear hb1)
      | (go_at_call_of 83 (dg t); refine (hT.out _).mono ?_; rintro e w1 ⟨rfl, hb1⟩; obtain ⟨hv1, hz1, hc1⟩ := two_kept hb1 (by assumption) (v := w) (by first | assumption | exact Below.drew (by assumption)) (by assumption); clear hb1))
  clear hS hT
  go_wp2
  refine bodyPost_ret (v := .tuple #[.string (ofL (dec (val (bs s) * 10 ^ (x - z).toNat))), .string (ofL (dec (val (bs t) * 10 ^ (y - z).toNat))), .int .i64 z]) (by simp [results, Tryd.results69, go_sem, *]) rfl ⟨rfl, ?_⟩
  assumption

/-- the digits of a number by the lower one of two powers of ten, as a row -/
def lvL (s : ByteArray) (x y : Int) : List UInt8 := bs (dg s) ++ zs (x - min x y).toNat
theorem lvL_val (s : ByteArray) (x y : Int) (h : val (bs (dg s)) = val (bs s)) : val (lvL s x y) = lvl s x y := by
  unfold lvL lvl; rw [val_zs, h]
theorem lvL_all (s : ByteArray) (x y : Int) (h : Canon (bs (dg s))) : (lvL s x y).all isDig = true := all_zs h.dig _
theorem lvL_of {s : ByteArray} {x y z : Int} (h : min x y = z) : ofL (lvL s x y) = dg s ++ ofL (zs (x - z).toNat) := by
  apply bs_inj
  rw [bs_ofL, bs_app, bs_ofL, ← h]; rfl

set_option maxRecDepth 10000 in
theorem l03Level_any (n : Bool) (s : ByteArray) (x : Int) (m : Bool) (t : ByteArray) (y : Int) (w : World) (h1 : decOk n (bs s) x = true) (h2 : decOk m (bs t) y = true) :
    Calls Tryd.prog 73 #[.agg #[.bool n, .string s, .int .i64 x], .agg #[.bool m, .string t, .int .i64 y]] w fun e w' => e = .returned (.tuple #[.string (ofL (lvL s x y)), .string (ofL (lvL t y x)), .int .i64 (min x y)]) ∧ Below w.heap.size w w' := by
  obtain ⟨a1, a2, a3, a4, a5, a6, a7, -, -⟩ := dec_facts h1
  obtain ⟨b1, b2, b3, b4, b5, b6, b7, -, -⟩ := dec_facts h2
  clear h1 h2
  obtain ⟨z, hz⟩ : ∃ z, min x y = z := ⟨_, rfl⟩
  have hz' : min y x = z := by omega
  have hzx : z ≤ x := by omega
  have hzy : z ≤ y := by omega
  have hzl : -119 ≤ z := by omega
  by_cases hyx : y < x
  · have ez : y = z := by omega
    subst ez
    obtain ⟨k, hk⟩ : ∃ k : Nat, (x - y).toNat = k := ⟨_, rfl⟩
    have hki : x - y = (k : Int) := by omega
    have hk2 : k ≤ 300 := by omega
    have hS := Lib.hid (fun w => l02Zeros_any k w (by omega))
    have hT := Lib.hid (fun w => l02Zeros_any 0 w (by omega))
    have sx := size_ofL (zs k)
    have sy := size_ofL (zs 0)
    rw [zs_len] at sx sy
    rw [lvL_of hz, lvL_of hz', hz, hk, show (y - y).toNat = 0 by omega]
    have wx : IntKind.i64.wrap (x - y) = (k : Int) := by rw [← hki]; exact IntWalk.i64_in _ (by omega)
    have n1 : ¬ (9223372036854775807 < (dg s).size + k) := by omega
    have n2 : ¬ (9223372036854775807 < (dg t).size + 0) := by omega
    have n3 : ¬ (9223372036854775807 < (dg t).size) := by omega
    clear a4 b4 a5 b5 hk hki
    go_enter Tryd.func73, Tryd.ntmps73
    go_wp2_with fail
    obtain ⟨w0, hw0, hz0, hb0, hc0⟩ := two_laid w n s x m t y
    rw [hw0]
    clear hw0
    go_region_held3 (fun w' => w'.cell? ⟨w.heap.size, 0, none⟩ = some (.bool n) ∧ w'.cell? ⟨w.heap.size, 1, none⟩ = some (.string s) ∧ w'.cell? ⟨w.heap.size, 2, none⟩ = some (.int .i64 x) ∧ w'.cell? ⟨w.heap.size + 1, 0, none⟩ = some (.bool m) ∧ w'.cell? ⟨w.heap.size + 1, 1, none⟩ = some (.string t) ∧ w'.cell? ⟨w.heap.size + 1, 2, none⟩ = some (.int .i64 y)) (first | assumption | go_keep)
      (first
        | (go_at_call 43; refine (l03Dig_any _ _ _ _).mono ?_; rintro e w1 ⟨rfl, hb1⟩; obtain ⟨hv1, hz1, hc1⟩ := two_kept hb1 (by assumption) (v := w) (by first | assumption | exact Below.drew (by assumption)) (by assumption); clear hb1)
        | (go_at_call_of 102 (k : Int); refine (hS.out _).mono ?_; rintro e w1 ⟨rfl, hb1⟩; obtain ⟨hv1, hz1, hc1⟩ := two_kept hb1 (by assumption) (v := w) (by first | assumption | exact Below.drew (by assumption)) (by assumption); clear hb1)
        | (go_at_call 102; refine (hT.out _).mono ?_; rintro e w1 ⟨rfl, hb1⟩; obtain ⟨hv1, hz1, hc1⟩ := two_kept hb1 (by assumption) (v := w) (by first | assumption | exact Below.drew (by assumption)) (by assumption); clear hb1))
    clear hS hT
    go_wp2
    refine bodyPost_ret (v := .tuple #[.string (dg s ++ ofL (zs k)), .string (dg t ++ ofL (zs 0)), .int .i64 y]) (by simp [results, Tryd.results73, go_sem, *]) rfl ⟨rfl, ?_⟩
    assumption
  · have ez : x = z := by omega
    subst ez
    obtain ⟨k, hk⟩ : ∃ k : Nat, (y - x).toNat = k := ⟨_, rfl⟩
    have hki : y - x = (k : Int) := by omega
    have hk2 : k ≤ 300 := by omega
    have hS := Lib.hid (fun w => l02Zeros_any k w (by omega))
    have hT := Lib.hid (fun w => l02Zeros_any 0 w (by omega))
    have sx := size_ofL (zs k)
    have sy := size_ofL (zs 0)
    rw [zs_len] at sx sy
    rw [lvL_of hz, lvL_of hz', hz, hk, show (x - x).toNat = 0 by omega]
    have wx : IntKind.i64.wrap (y - x) = (k : Int) := by rw [← hki]; exact IntWalk.i64_in _ (by omega)
    have n1 : ¬ (9223372036854775807 < (dg t).size + k) := by omega
    have n2 : ¬ (9223372036854775807 < (dg s).size + 0) := by omega
    have n3 : ¬ (9223372036854775807 < (dg s).size) := by omega
    clear a4 b4 a5 b5 hk hki
    go_enter Tryd.func73, Tryd.ntmps73
    go_wp2_with fail
    obtain ⟨w0, hw0, hz0, hb0, hc0⟩ := two_laid w n s x m t y
    rw [hw0]
    clear hw0
    go_region_held3 (fun w' => w'.cell? ⟨w.heap.size, 0, none⟩ = some (.bool n) ∧ w'.cell? ⟨w.heap.size, 1, none⟩ = some (.string s) ∧ w'.cell? ⟨w.heap.size, 2, none⟩ = some (.int .i64 x) ∧ w'.cell? ⟨w.heap.size + 1, 0, none⟩ = some (.bool m) ∧ w'.cell? ⟨w.heap.size + 1, 1, none⟩ = some (.string t) ∧ w'.cell? ⟨w.heap.size + 1, 2, none⟩ = some (.int .i64 y)) (first | assumption | go_keep)
      (first
        | (go_at_call 43; refine (l03Dig_any _ _ _ _).mono ?_; rintro e w1 ⟨rfl, hb1⟩; obtain ⟨hv1, hz1, hc1⟩ := two_kept hb1 (by assumption) (v := w) (by first | assumption | exact Below.drew (by assumption)) (by assumption); clear hb1)
        | (go_at_call_of 102 (k : Int); refine (hS.out _).mono ?_; rintro e w1 ⟨rfl, hb1⟩; obtain ⟨hv1, hz1, hc1⟩ := two_kept hb1 (by assumption) (v := w) (by first | assumption | exact Below.drew (by assumption)) (by assumption); clear hb1)
        | (go_at_call 102; refine (hT.out _).mono ?_; rintro e w1 ⟨rfl, hb1⟩; obtain ⟨hv1, hz1, hc1⟩ := two_kept hb1 (by assumption) (v := w) (by first | assumption | exact Below.drew (by assumption)) (by assumption); clear hb1))
    clear hS hT
    go_wp2
    refine bodyPost_ret (v := .tuple #[.string (dg s ++ ofL (zs 0)), .string (dg t ++ ofL (zs k)), .int .i64 x]) (by simp [results, Tryd.results73, go_sem, *]) rfl ⟨rfl, ?_⟩
    assumption
end Go.Proofs.YtjjpdoabagnmoaaDoor

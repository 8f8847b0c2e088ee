/-
  The contracts of both sides' DecInt. Conditions: as each theorem says.
-/
import Derived.Test.YtbfkmpignbppfaaDoorPair
import Derived.Deep.CutRange
namespace Go.Proofs.YtbfkmpignbppfaaDoor
open Go.RowKit
set_option linter.unusedVariables false
set_option linter.unusedSimpArgs false

/-- the digits ahead of the point, in form, and the code -/
def cutV (n : Bool) (s : ByteArray) (x : Int) : Value := formV n (val ((bs s).take ((s.size : Int) + x).toNat)) 0

set_option maxRecDepth 10000 in
theorem decInt_pos (n : Bool) (s : ByteArray) (x : Int) (w : World) (hx0 : 0 ≤ x) :
    Calls Tryd.prog 70 #[.agg #[.bool n, .string s, .int .i64 x]] w fun e w' => e = .returned (.agg #[.bool n, .string s, .int .i64 x]) ∧ Below w.heap.size w w' := by
  go_enter Tryd.func70, Tryd.ntmps70
  go_wp2
  refine bodyPost_ret (v := .agg #[.bool n, .string s, .int .i64 x]) (by simp [results, Tryd.results70, go_sem, *]) rfl ⟨rfl, ?_⟩
  go_light
  (repeat (first | exact Below.refl _ _ | assumption | refine Below.drew ?_ | refine below_drewN ?_ _ | (refine Below.alloc ?_ (by first | exact Nat.le_refl _ | (simp; done) | (simp; omega) | (simp at *; omega)) _) | (refine Below.setCell ?_ (by first | exact Nat.le_refl _ | (simp; done) | (simp; omega)) _) | (refine Below.trans ?_ (Below.mono (by assumption) (by first | exact Nat.le_refl _ | (simp; done) | (simp; omega) | (simp at *; omega))))))

set_option maxRecDepth 10000 in
theorem decInt_zero (n : Bool) (s : ByteArray) (x : Int) (w : World) (hx0 : x < 0) (hxl : -1000 ≤ x) (hl : (s.size : Int) + x ≤ 0) :
    Calls Tryd.prog 70 #[.agg #[.bool n, .string s, .int .i64 x]] w fun e w' => e = .returned (.agg #[.bool false, .string ⟨#[]⟩, .int .i64 0]) ∧ Below w.heap.size w w' := by
  have hi : ¬ (-x < (s.size : Int)) := by omega
  go_enter Tryd.func70, Tryd.ntmps70
  go_wp2
  refine bodyPost_ret (v := .agg #[.bool false, .string ⟨#[]⟩, .int .i64 0]) (by simp [results, Tryd.results70, go_sem, *]) rfl ⟨rfl, ?_⟩
  go_light
  (repeat (first | exact Below.refl _ _ | assumption | refine Below.drew ?_ | refine below_drewN ?_ _ | (refine Below.alloc ?_ (by first | exact Nat.le_refl _ | (simp; done) | (simp; omega) | (simp at *; omega)) _) | (refine Below.setCell ?_ (by first | exact Nat.le_refl _ | (simp; done) | (simp; omega)) _) | (refine Below.trans ?_ (Below.mono (by assumption) (by first | exact Nat.le_refl _ | (simp; done) | (simp; omega) | (simp at *; omega))))))

set_option maxRecDepth 10000 in
set_option maxHeartbeats 1000000 in
theorem decInt_cut (n : Bool) (s : ByteArray) (x : Int) (hk : decOk n (bs s) x = true) (hx0 : x < 0) (hl : 0 < (s.size : Int) + x) :
    ∃ (n' : Bool) (u : ByteArray) (y' c : Int), cutV n s x = .tuple #[.agg #[.bool n', .string u, .int .i64 y'], .int .i64 c] ∧ ∀ w : World, Calls Tryd.prog 70 #[.agg #[.bool n, .string s, .int .i64 x]] w fun e w' => e = .returned (.agg #[.bool n', .string u, .int .i64 y']) ∧ Below w.heap.size w w' := by
  obtain ⟨a1, a2, a3, a4, a5, a6, a7, -, -⟩ := dec_facts hk
  have h0 : 0 < s.size := by omega
  obtain ⟨k, hk0⟩ : ∃ k : Nat, (s.size : Int) + x = (k : Int) := ⟨((s.size : Int) + x).toNat, by omega⟩
  have hkl : k < s.size := by omega
  have hk1 : 1 ≤ k := by omega
  have hcan := (form_same hk (ne_nil h0)).1
  have hall : (bs (s.extract 0 k)).all isDig = true := by rw [bs_front]; exact all_take hcan.dig k
  have hsz : (s.extract 0 k).size = k := by rw [← bs_length, bs_front, List.length_take, bs_length]; omega
  have hcv : cutV n s x = formV n (val (bs (s.extract 0 k))) 0 := by unfold cutV; rw [hk0, Int.toNat_natCast, bs_front]
  obtain ⟨n', u, y', c, hV, -, -, -⟩ := formV_lit n (val (bs (s.extract 0 k))) 0
  have hN := Lib.hid (fun w => by
    have := normal_any n (s.extract 0 k) 0 w hall (by omega) (by omega) (by omega)
    rw [hV] at this
    exact this : ∀ w : World, Calls Tryd.prog 52 #[.bool n, .string (s.extract 0 k), .int .i64 0] w fun e w' => e = .returned (.tuple #[.agg #[.bool n', .string u, .int .i64 y'], .int .i64 c]) ∧ Below w.heap.size w w')
  refine ⟨n', u, y', c, hcv.trans hV, ?_⟩
  have hi1 : 0 ≤ (k : Int) := by omega
  have hkle : k ≤ s.size := by omega
  have hi2 : (k : Int) ≤ (s.size : Int) := by omega
  have hi4 : ¬ (k : Int) ≤ 0 := by omega
  have hi5 : ¬ ((s.size : Int) ≤ -x) := by omega
  clear a4 a5 hcan hall hV hcv
  intro w
  have wk : IntKind.i64.wrap ((s.size : Int) + x) = (k : Int) := by rw [hk0]; exact IntWalk.i64_in _ (by omega)
  clear hk0
  go_enter Tryd.func70, Tryd.ntmps70
  go_wp2_with fail
  obtain ⟨w1, hw1, hz1, hv1, hc1, hr1⟩ := pair_laid w n s x
  rw [hw1]
  clear hw1
  obtain ⟨hz1a, hz1b⟩ := hz1
  have hle1 : w.heap.size < w1.heap.size + 1 := Nat.lt_add_one_of_lt hz1a
  have hle1b : w.heap.size + 1 < w1.heap.size + 1 := Nat.lt_add_one_of_lt hz1b
  have hne1 : ¬ (w.heap.size = w1.heap.size) := Nat.ne_of_lt hz1a
  have hme1 : ¬ (w1.heap.size = w.heap.size) := Nat.ne_of_gt hz1a
  have hne1b : ¬ (w.heap.size + 1 = w1.heap.size) := Nat.ne_of_lt hz1b
  have hme1b : ¬ (w1.heap.size = w.heap.size + 1) := Nat.ne_of_gt hz1b
  have hds : ∀ u : World, u.drew.heap.size = u.heap.size := drew_size
  go_upto_region 5 with fail
  go_cut [3, 4] (fun s3 s4 wx => ∃ g : Nat, s3 = .pointer (some ⟨g, 0, none⟩) ∧ s4 = .int .i64 c ∧ Below w1.heap.size w1 wx ∧
    (wx.cell? ⟨g, 0, none⟩ = some (.bool n') ∧ wx.cell? ⟨g, 1, none⟩ = some (.string u) ∧ wx.cell? ⟨g, 2, none⟩ = some (.int .i64 y')))
  case first =>
    go_region_held3 (fun w' => w'.cell? ⟨w.heap.size, 0, none⟩ = some (.bool n) ∧ w'.cell? ⟨w.heap.size, 1, none⟩ = some (.string s) ∧ w'.cell? ⟨w.heap.size, 2, none⟩ = some (.int .i64 x)) (go_keep)
      (first | (go_at_call 52; refine (hN.out _).mono ?_; rintro e w2 ⟨rfl, hb2⟩; obtain ⟨hb2c, hb2f⟩ := bcell hb2; have hb2q := hb2.size; (try simp at hb2q); have hb2q0 : w.heap.size < w2.heap.size := (by omega); have hb2q1 : w.heap.size + 1 < w2.heap.size := (by omega); have hup := fun (g : Nat) h => Nat.lt_of_lt_of_le (n := g) h hb2.size; have hle2 : w.heap.size < w2.heap.size + 1 := Nat.lt_add_one_of_lt hb2q0; have hne2 : ¬ (w.heap.size = w2.heap.size) := Nat.ne_of_lt hb2q0; have hme2 : ¬ (w2.heap.size = w.heap.size) := Nat.ne_of_gt hb2q0))
    all_goals (go_wp2_with fail; go_meet; refine ⟨_, rfl, rfl, ?_, ?_⟩)
    all_goals first
      | (show Below _ _ _; (repeat (first | exact Below.refl _ _ | assumption | refine Below.drew ?_ | refine below_drewN ?_ _ | (refine Below.alloc ?_ (by first | exact Nat.le_refl _ | (simp; done) | (simp; omega) | (simp at *; omega)) _) | (refine Below.setCell ?_ (by first | exact Nat.le_refl _ | (simp; done) | (simp; omega)) _) | (refine Below.trans ?_ (Below.mono (by assumption) (by first | exact Nat.le_refl _ | (simp; done) | (simp; omega) | (simp at *; omega)))))))
      | go_keep
      | exact set_cells (v0 := .bool false) (v1 := .string ⟨#[]⟩) (v2 := .int .i64 0) (by go_keep) (by go_keep) (by go_keep)
  case rest =>
    obtain ⟨g, rfl, rfl, hb3, hg3⟩ := hcut
    obtain ⟨hv3, hz3, hc3, hr3⟩ := pair_kept hb3 ⟨hz1a, hz1b⟩ hv1 hc1 hr1
    clear hv1 hc1 hr1 hb3
    go_wp2
    refine bodyPost_ret (v := .agg #[.bool n', .string u, .int .i64 y']) (by simp [results, Tryd.results70, go_sem, *]) rfl ⟨rfl, ?_⟩
    exact set_three hv3 (by omega) _ _ _

set_option maxRecDepth 10000 in
theorem implDecInt_no (n : Bool) (s : ByteArray) (x : Int) (w : World) (hs : s.size ≤ maxLen) (hx : (Lit.int .i64 x).wf = true) (hk : decOk n (bs s) x = false) :
    Calls Tryd.prog 38 #[.agg #[.bool n, .string s, .int .i64 x]] w fun e w' => e = .returned (.agg #[.bool false, .string ⟨#[]⟩, .int .i64 0]) ∧ Below w.heap.size w w' := by
  go_enter Tryd.func38, Tryd.ntmps38
  go_wp2_with (first | (go_at_call 43; refine (isDec_any n s x _ hs hx).mono ?_; rintro e w1 ⟨rfl, hb1⟩; obtain ⟨hb1c, hb1f⟩ := bcell hb1; have hb1q := hb1.size; (try simp at hb1q); have hb1q0 : w.heap.size < w1.heap.size := (by omega); have hb1q1 : w.heap.size + 1 < w1.heap.size := (by omega); have hle1 : w.heap.size < w1.heap.size + 1 := Nat.lt_add_one_of_lt hb1q0; have hne1 : ¬ (w.heap.size = w1.heap.size) := Nat.ne_of_lt hb1q0; have hme1 : ¬ (w1.heap.size = w.heap.size) := Nat.ne_of_gt hb1q0))
  refine bodyPost_ret (v := .agg #[.bool false, .string ⟨#[]⟩, .int .i64 0]) (by simp [results, Tryd.results38, go_sem, *]) rfl ⟨rfl, ?_⟩
  go_light
  (repeat (first | exact Below.refl _ _ | assumption | refine Below.drew ?_ | refine below_drewN ?_ _ | (refine Below.alloc ?_ (by first | exact Nat.le_refl _ | (simp; done) | (simp; omega) | (simp at *; omega)) _) | (refine Below.setCell ?_ (by first | exact Nat.le_refl _ | (simp; done) | (simp; omega)) _) | (refine Below.trans ?_ (Below.mono (by assumption) (by first | exact Nat.le_refl _ | (simp; done) | (simp; omega) | (simp at *; omega))))))

theorem implDecInt_yes (n : Bool) (s : ByteArray) (x : Int) (hs : s.size ≤ maxLen) (hx : (Lit.int .i64 x).wf = true) (hk : decOk n (bs s) x = true) (m : Bool) (t : ByteArray) (y : Int)
    (hI : ∀ w : World, Calls Tryd.prog 70 #[.agg #[.bool n, .string s, .int .i64 x]] w fun e w' => e = .returned (.agg #[.bool m, .string t, .int .i64 y]) ∧ Below w.heap.size w w') (w : World) :
    Calls Tryd.prog 38 #[.agg #[.bool n, .string s, .int .i64 x]] w fun e w' => e = .returned (.agg #[.bool m, .string t, .int .i64 y]) ∧ Below w.heap.size w w' := by
  have HI := Lib.hid hI
  clear hI
  go_enter Tryd.func38, Tryd.ntmps38
  go_wp2_with (first | (go_at_call 43; refine (isDec_any n s x _ hs hx).mono ?_; rintro e w1 ⟨rfl, hb1⟩; obtain ⟨hb1c, hb1f⟩ := bcell hb1; have hb1q := hb1.size; (try simp at hb1q); have hb1q0 : w.heap.size < w1.heap.size := (by omega); have hb1q1 : w.heap.size + 1 < w1.heap.size := (by omega); have hle1 : w.heap.size < w1.heap.size + 1 := Nat.lt_add_one_of_lt hb1q0; have hne1 : ¬ (w.heap.size = w1.heap.size) := Nat.ne_of_lt hb1q0; have hme1 : ¬ (w1.heap.size = w.heap.size) := Nat.ne_of_gt hb1q0) | (go_at_call 70; refine (HI.out _).mono ?_; rintro e w2 ⟨rfl, hb2⟩; obtain ⟨hb2c, hb2f⟩ := bcell hb2; have hb2q := hb2.size; (try simp at hb2q); have hb2q0 : w.heap.size < w2.heap.size := (by omega); have hb2q1 : w.heap.size + 1 < w2.heap.size := (by omega)))
  refine bodyPost_ret (v := .agg #[.bool m, .string t, .int .i64 y]) (by simp [results, Tryd.results38, go_sem, *]) rfl ⟨rfl, ?_⟩
  go_light
  (repeat (first | exact Below.refl _ _ | assumption | refine Below.drew ?_ | refine below_drewN ?_ _ | (refine Below.alloc ?_ (by first | exact Nat.le_refl _ | (simp; done) | (simp; omega) | (simp at *; omega)) _) | (refine Below.setCell ?_ (by first | exact Nat.le_refl _ | (simp; done) | (simp; omega)) _) | (refine Below.trans ?_ (Below.mono (by assumption) (by first | exact Nat.le_refl _ | (simp; done) | (simp; omega) | (simp at *; omega))))))

set_option maxRecDepth 10000 in
theorem specDecInt_no (n : Bool) (s : ByteArray) (x : Int) (w : World) (hs : s.size ≤ maxLen) (hx : (Lit.int .i64 x).wf = true) (hk : decOk n (bs s) x = false) :
    Calls Tryd.prog 37 #[.agg #[.bool n, .string s, .int .i64 x]] w fun e w' => e = .returned (.agg #[.bool false, .string ⟨#[]⟩, .int .i64 0]) ∧ Below w.heap.size w w' := by
  go_enter Tryd.func37, Tryd.ntmps37
  go_wp2_with (first | (go_at_call 39; refine (specDecOk_any n s x _ hs hx).mono ?_; rintro e w1 ⟨rfl, hb1⟩; obtain ⟨hb1c, hb1f⟩ := bcell hb1; have hb1q := hb1.size; (try simp at hb1q); have hb1q0 : w.heap.size < w1.heap.size := (by omega); have hb1q1 : w.heap.size + 1 < w1.heap.size := (by omega); have hle1 : w.heap.size < w1.heap.size + 1 := Nat.lt_add_one_of_lt hb1q0; have hne1 : ¬ (w.heap.size = w1.heap.size) := Nat.ne_of_lt hb1q0; have hme1 : ¬ (w1.heap.size = w.heap.size) := Nat.ne_of_gt hb1q0))
  refine bodyPost_ret (v := .agg #[.bool false, .string ⟨#[]⟩, .int .i64 0]) (by simp [results, Tryd.results37, go_sem, *]) rfl ⟨rfl, ?_⟩
  go_light
  (repeat (first | exact Below.refl _ _ | assumption | refine Below.drew ?_ | refine below_drewN ?_ _ | (refine Below.alloc ?_ (by first | exact Nat.le_refl _ | (simp; done) | (simp; omega) | (simp at *; omega)) _) | (refine Below.setCell ?_ (by first | exact Nat.le_refl _ | (simp; done) | (simp; omega)) _) | (refine Below.trans ?_ (Below.mono (by assumption) (by first | exact Nat.le_refl _ | (simp; done) | (simp; omega) | (simp at *; omega))))))

set_option maxRecDepth 10000 in
theorem specDecInt_pos (n : Bool) (s : ByteArray) (x : Int) (w : World) (hs : s.size ≤ maxLen) (hx : (Lit.int .i64 x).wf = true) (hk : decOk n (bs s) x = true) (hx0 : 0 ≤ x) :
    Calls Tryd.prog 37 #[.agg #[.bool n, .string s, .int .i64 x]] w fun e w' => e = .returned (.agg #[.bool n, .string s, .int .i64 x]) ∧ Below w.heap.size w w' := by
  go_enter Tryd.func37, Tryd.ntmps37
  go_wp2_with (first | (go_at_call 39; refine (specDecOk_any n s x _ hs hx).mono ?_; rintro e w1 ⟨rfl, hb1⟩; obtain ⟨hb1c, hb1f⟩ := bcell hb1; have hb1q := hb1.size; (try simp at hb1q); have hb1q0 : w.heap.size < w1.heap.size := (by omega); have hb1q1 : w.heap.size + 1 < w1.heap.size := (by omega); have hle1 : w.heap.size < w1.heap.size + 1 := Nat.lt_add_one_of_lt hb1q0; have hne1 : ¬ (w.heap.size = w1.heap.size) := Nat.ne_of_lt hb1q0; have hme1 : ¬ (w1.heap.size = w.heap.size) := Nat.ne_of_gt hb1q0))
  refine bodyPost_ret (v := .agg #[.bool n, .string s, .int .i64 x]) (by simp [results, Tryd.results37, go_sem, *]) rfl ⟨rfl, ?_⟩
  go_light
  (repeat (first | exact Below.refl _ _ | assumption | refine Below.drew ?_ | refine below_drewN ?_ _ | (refine Below.alloc ?_ (by first | exact Nat.le_refl _ | (simp; done) | (simp; omega) | (simp at *; omega)) _) | (refine Below.setCell ?_ (by first | exact Nat.le_refl _ | (simp; done) | (simp; omega)) _) | (refine Below.trans ?_ (Below.mono (by assumption) (by first | exact Nat.le_refl _ | (simp; done) | (simp; omega) | (simp at *; omega))))))

set_option maxRecDepth 10000 in
theorem specDecInt_zero (n : Bool) (s : ByteArray) (x : Int) (w : World) (hs : s.size ≤ maxLen) (hx : (Lit.int .i64 x).wf = true) (hk : decOk n (bs s) x = true) (hx0 : x < 0) (hxl : -1000 ≤ x) (hl : (s.size : Int) + x ≤ 0) :
    Calls Tryd.prog 37 #[.agg #[.bool n, .string s, .int .i64 x]] w fun e w' => e = .returned (.agg #[.bool false, .string ⟨#[]⟩, .int .i64 0]) ∧ Below w.heap.size w w' := by
  go_enter Tryd.func37, Tryd.ntmps37
  go_wp2_with (first | (go_at_call 39; refine (specDecOk_any n s x _ hs hx).mono ?_; rintro e w1 ⟨rfl, hb1⟩; obtain ⟨hb1c, hb1f⟩ := bcell hb1; have hb1q := hb1.size; (try simp at hb1q); have hb1q0 : w.heap.size < w1.heap.size := (by omega); have hb1q1 : w.heap.size + 1 < w1.heap.size := (by omega); have hle1 : w.heap.size < w1.heap.size + 1 := Nat.lt_add_one_of_lt hb1q0; have hne1 : ¬ (w.heap.size = w1.heap.size) := Nat.ne_of_lt hb1q0; have hme1 : ¬ (w1.heap.size = w.heap.size) := Nat.ne_of_gt hb1q0))
  refine bodyPost_ret (v := .agg #[.bool false, .string ⟨#[]⟩, .int .i64 0]) (by simp [results, Tryd.results37, go_sem, *]) rfl ⟨rfl, ?_⟩
  go_light
  (repeat (first | exact Below.refl _ _ | assumption | refine Below.drew ?_ | refine below_drewN ?_ _ | (refine Below.alloc ?_ (by first | exact Nat.le_refl _ | (simp; done) | (simp; omega) | (simp at *; omega)) _) | (refine Below.setCell ?_ (by first | exact Nat.le_refl _ | (simp; done) | (simp; omega)) _) | (refine Below.trans ?_ (Below.mono (by assumption) (by first | exact Nat.le_refl _ | (simp; done) | (simp; omega) | (simp at *; omega))))))

set_option maxRecDepth 10000 in
set_option maxHeartbeats 1000000 in
theorem specDecInt_cut (n : Bool) (s : ByteArray) (x : Int) (hs : s.size ≤ maxLen) (hx : (Lit.int .i64 x).wf = true) (hk : decOk n (bs s) x = true) (hx0 : x < 0) (hl : 0 < (s.size : Int) + x) :
    ∃ (n' : Bool) (u : ByteArray) (y' c : Int), cutV n s x = .tuple #[.agg #[.bool n', .string u, .int .i64 y'], .int .i64 c] ∧ ∀ w : World, Calls Tryd.prog 37 #[.agg #[.bool n, .string s, .int .i64 x]] w fun e w' => e = .returned (.agg #[.bool n', .string u, .int .i64 y']) ∧ Below w.heap.size w w' := by
  obtain ⟨a1, a2, a3, a4, a5, a6, a7, -, -⟩ := dec_facts hk
  have h0 : 0 < s.size := by omega
  obtain ⟨k, hk0⟩ : ∃ k : Nat, (s.size : Int) + x = (k : Int) := ⟨((s.size : Int) + x).toNat, by omega⟩
  have hkl : k < s.size := by omega
  have hk1 : 1 ≤ k := by omega
  have hcan := (form_same hk (ne_nil h0)).1
  have hall : (bs (s.extract 0 k)).all isDig = true := by rw [bs_front]; exact all_take hcan.dig k
  have hsz : (s.extract 0 k).size = k := by rw [← bs_length, bs_front, List.length_take, bs_length]; omega
  have hcv : cutV n s x = formV n (val (bs (s.extract 0 k))) 0 := by unfold cutV; rw [hk0, Int.toNat_natCast, bs_front]
  obtain ⟨n', u, y', c, hV, -, -, -⟩ := formV_lit n (val (bs (s.extract 0 k))) 0
  have hN := Lib.hid (fun w => by
    have := l03Form_any n (s.extract 0 k) 0 w hall (by omega) (by omega) (by omega)
    rw [hV] at this
    exact this : ∀ w : World, Calls Tryd.prog 49 #[.bool n, .string (s.extract 0 k), .int .i64 0, .bool false] w fun e w' => e = .returned (.tuple #[.agg #[.bool n', .string u, .int .i64 y'], .int .i64 c]) ∧ Below w.heap.size w w')
  refine ⟨n', u, y', c, hcv.trans hV, ?_⟩
  have hi1 : 0 ≤ (k : Int) := by omega
  have hkle : k ≤ s.size := by omega
  have hi2 : (k : Int) ≤ (s.size : Int) := by omega
  have hi4 : ¬ (k : Int) ≤ 0 := by omega
  have hi5 : ¬ ((s.size : Int) ≤ -x) := by omega
  clear a4 a5 hcan hall hV hcv
  intro w
  have wk : IntKind.i64.wrap ((s.size : Int) + x) = (k : Int) := by rw [hk0]; exact IntWalk.i64_in _ (by omega)
  clear hk0
  go_enter Tryd.func37, Tryd.ntmps37
  go_wp2_with fail
  refine (specDecOk_any n s x _ hs hx).mono ?_
  rintro e w1 ⟨rfl, hb1⟩
  rw [hk]
  obtain ⟨w0, hw0, hz0, hb0, hc0, hr0⟩ := pair_laid w n s x
  rw [hw0] at hb1
  obtain ⟨hv1, hz1, hc1, hr1⟩ := pair_kept hb1 hz0 hb0 hc0 hr0
  clear hw0 hz0 hb0 hc0 hr0 hb1
  obtain ⟨hz1a, hz1b⟩ := hz1
  have hle1 : w.heap.size < w1.heap.size + 1 := Nat.lt_add_one_of_lt hz1a
  have hle1b : w.heap.size + 1 < w1.heap.size + 1 := Nat.lt_add_one_of_lt hz1b
  have hne1 : ¬ (w.heap.size = w1.heap.size) := Nat.ne_of_lt hz1a
  have hme1 : ¬ (w1.heap.size = w.heap.size) := Nat.ne_of_gt hz1a
  have hne1b : ¬ (w.heap.size + 1 = w1.heap.size) := Nat.ne_of_lt hz1b
  have hme1b : ¬ (w1.heap.size = w.heap.size + 1) := Nat.ne_of_gt hz1b
  have hds : ∀ u : World, u.drew.heap.size = u.heap.size := drew_size
  go_upto_region 7 with fail
  go_cut [3, 4] (fun s3 s4 wx => ∃ g : Nat, s3 = .pointer (some ⟨g, 0, none⟩) ∧ s4 = .int .i64 c ∧ Below w1.heap.size w1 wx ∧
    (wx.cell? ⟨g, 0, none⟩ = some (.bool n') ∧ wx.cell? ⟨g, 1, none⟩ = some (.string u) ∧ wx.cell? ⟨g, 2, none⟩ = some (.int .i64 y')))
  case first =>
    go_region_held3 (fun w' => w'.cell? ⟨w.heap.size, 0, none⟩ = some (.bool n) ∧ w'.cell? ⟨w.heap.size, 1, none⟩ = some (.string s) ∧ w'.cell? ⟨w.heap.size, 2, none⟩ = some (.int .i64 x)) (go_keep)
      (first | (go_at_call 49; refine (hN.out _).mono ?_; rintro e w2 ⟨rfl, hb2⟩; obtain ⟨hb2c, hb2f⟩ := bcell hb2; have hb2q := hb2.size; (try simp at hb2q); have hb2q0 : w.heap.size < w2.heap.size := (by omega); have hb2q1 : w.heap.size + 1 < w2.heap.size := (by omega); have hup := fun (g : Nat) h => Nat.lt_of_lt_of_le (n := g) h hb2.size; have hle2 : w.heap.size < w2.heap.size + 1 := Nat.lt_add_one_of_lt hb2q0; have hne2 : ¬ (w.heap.size = w2.heap.size) := Nat.ne_of_lt hb2q0; have hme2 : ¬ (w2.heap.size = w.heap.size) := Nat.ne_of_gt hb2q0))
    all_goals (go_wp2_with fail; go_meet; refine ⟨_, rfl, rfl, ?_, ?_⟩)
    all_goals first
      | (show Below _ _ _; (repeat (first | exact Below.refl _ _ | assumption | refine Below.drew ?_ | refine below_drewN ?_ _ | (refine Below.alloc ?_ (by first | exact Nat.le_refl _ | (simp; done) | (simp; omega) | (simp at *; omega)) _) | (refine Below.setCell ?_ (by first | exact Nat.le_refl _ | (simp; done) | (simp; omega)) _) | (refine Below.trans ?_ (Below.mono (by assumption) (by first | exact Nat.le_refl _ | (simp; done) | (simp; omega) | (simp at *; omega)))))))
      | go_keep
      | exact set_cells (v0 := .bool false) (v1 := .string ⟨#[]⟩) (v2 := .int .i64 0) (by go_keep) (by go_keep) (by go_keep)
  case rest =>
    obtain ⟨g, rfl, rfl, hb3, hg3⟩ := hcut
    obtain ⟨hv3, hz3, hc3, hr3⟩ := pair_kept hb3 ⟨hz1a, hz1b⟩ hv1 hc1 hr1
    clear hv1 hc1 hr1 hb3
    go_wp2
    refine bodyPost_ret (v := .agg #[.bool n', .string u, .int .i64 y']) (by simp [results, Tryd.results37, go_sem, *]) rfl ⟨rfl, ?_⟩
    exact set_three hv3 (by omega) _ _ _
end Go.Proofs.YtbfkmpignbppfaaDoor

/-
  Texts of this claim in one file, in build order: DecText. Each says ahead what it proves and under which conditions.
-/
import Derived.Test.YtjjpdoabagnmoaaGreatDoorQ02
import Derived.Test.YtjjpdoabagnmoaaGreatDoorQ06
import Derived.Test.YtjjpdoabagnmoaaGreatDoorQ08
/-
  A number's text, and the contract of impl.decText. Conditions: a number in form, not 0; the table of strconv stands in memory.
-/
namespace Go.Proofs.YtjjpdoabagnmoaaGreatDoor
open Go.RowKit
set_option linter.unusedVariables false
set_option linter.unusedSimpArgs false

/-- a number's text -/
def signL (n : Bool) : List UInt8 := if n then [45] else []
def textL (n : Bool) (l : List UInt8) (x : Int) : List UInt8 :=
  if l = [] then [48]
  else if betw (x + l.length - 1) (-7) 20 = false then
    signL n ++ l.take 1 ++ (if 1 < l.length then 46 :: l.drop 1 else []) ++ (if x + l.length - 1 < 0 then 101 :: 45 :: dec (-(x + l.length - 1)).toNat else 101 :: 43 :: dec (x + l.length - 1).toNat)
  else if 0 ≤ x then signL n ++ l ++ zs x.toNat
  else if x + l.length - 1 < 0 then signL n ++ [48, 46] ++ zs (-(x + l.length - 1) - 1).toNat ++ l
  else signL n ++ l.take (x + l.length).toNat ++ 46 :: l.drop (x + l.length).toNat

theorem drewN_below {B : Nat} {a w : World} (h : Below B a w) (n : Nat) : Below B a (w.drewN n) := ⟨h.os, h.tape, h.output, h.size, h.block⟩

set_option maxRecDepth 10000 in
set_option maxHeartbeats 1000000 in
theorem decText_whole (n : Bool) (s : ByteArray) (x : Int) (w : World) (hk : decOk n (bs s) x = true) (h0 : 0 < s.size) (hw : betw (x + s.size - 1) (-7) 20 = true) (hx0 : 0 ≤ x) :
    Calls Tryz.prog 42 #[.agg #[.bool n, .string s, .int .i64 x]] w fun e w' => e = .returned (.string (ofL (textL n (bs s) x))) ∧ Below w.heap.size w w' := by
  have hne := ne_nil h0
  obtain ⟨hcan, hv, -, -⟩ := form_same hk hne
  obtain ⟨a1, a2, a3, -⟩ := dec_facts hk
  have hemp := isEmpty_no h0
  obtain ⟨k, rfl⟩ : ∃ k : Nat, x = (k : Int) := ⟨x.toNat, by omega⟩
  have hr : textL n (bs s) (k : Int) = signL n ++ bs s ++ zs k := by
    unfold textL
    rw [if_neg hne, bs_length, hw, if_neg (by simp), if_pos hx0, Int.toNat_natCast]
  have hS := Lib.hid (fun w => by
    have := natShift_any s k w hcan (by omega) (by omega)
    rw [← dec_shift hcan (by omega) k] at this
    exact this : ∀ w : World, Calls Tryz.prog 50 #[.string s, .int .i64 (k : Int)] w fun e w' => e = .returned (.string (ofL (bs s ++ zs k))) ∧ Below w.heap.size w w')
  have hZ : (ofL (bs s ++ zs k)).size = s.size + k := by rw [size_ofL, List.length_append, bs_length, zs_len]
  have n1 : ¬ (9223372036854775807 < s.size + k) := by omega
  have n2 : ¬ (9223372036854775807 < 1 + (s.size + k)) := by omega
  rw [hr]
  clear hr hcan
  cases n
  · go_enter Tryz.func42, Tryz.ntmps42
    go_wp2_with fail
    refine (within_any _ _ _ _).mono ?_
    rintro e w1 ⟨rfl, hw1⟩
    subst hw1
    rw [hw]
    obtain ⟨w0, hw0, hz0, hb0, hc0, hf0⟩ := one_laid w false s (k : Int)
    rw [hw0]
    clear hw0
    go_wp2_with fail
    refine (hS.out _).mono ?_
    rintro e w2 ⟨rfl, hb2⟩
    go_wp2
    go_ret
    refine ⟨num_ret (bs_inj ?_), hb0.trans (hb2.mono hb0.size)⟩
    simp only [bs_app, bs_ofL, signL]
    first | rfl | (simp [bs]; done) | trace_state
  · go_enter Tryz.func42, Tryz.ntmps42
    go_wp2_with fail
    refine (within_any _ _ _ _).mono ?_
    rintro e w1 ⟨rfl, hw1⟩
    subst hw1
    rw [hw]
    obtain ⟨w0, hw0, hz0, hb0, hc0, hf0⟩ := one_laid w true s (k : Int)
    rw [hw0]
    clear hw0
    go_wp2_with fail
    refine (hS.out _).mono ?_
    rintro e w2 ⟨rfl, hb2⟩
    go_wp2
    go_ret
    refine ⟨num_ret (bs_inj ?_), hb0.trans (hb2.mono hb0.size)⟩
    simp only [bs_app, bs_ofL, signL]
    first | rfl | (simp [bs]; done) | trace_state

set_option maxRecDepth 10000 in
set_option maxHeartbeats 1000000 in
theorem decText_point (n : Bool) (s : ByteArray) (x : Int) (w : World) (hk : decOk n (bs s) x = true) (h0 : 0 < s.size) (hw : betw (x + s.size - 1) (-7) 20 = true) (hx0 : x < 0) (hh : 0 ≤ x + s.size - 1) :
    Calls Tryz.prog 42 #[.agg #[.bool n, .string s, .int .i64 x]] w fun e w' => e = .returned (.string (ofL (textL n (bs s) x))) ∧ Below w.heap.size w w' := by
  have hne := ne_nil h0
  obtain ⟨hcan, hv, -, -⟩ := form_same hk hne
  obtain ⟨a1, a2, a3, -⟩ := dec_facts hk
  have hemp := isEmpty_no h0
  obtain ⟨k, hk0⟩ : ∃ k : Nat, x + (s.size : Int) = (k : Int) := ⟨(x + (s.size : Int)).toNat, by omega⟩
  have hr : textL n (bs s) x = signL n ++ (bs s).take k ++ 46 :: (bs s).drop k := by
    unfold textL
    rw [if_neg hne, bs_length, hw, if_neg (by simp), if_neg (by omega), if_neg (by omega), hk0, Int.toNat_natCast]
  obtain ⟨m, hm⟩ : ∃ m : Nat, x + (s.size : Int) - 1 = (m : Int) := ⟨(x + (s.size : Int) - 1).toNat, by omega⟩
  have hmk : IntKind.i64.wrap ((m : Int) + 1) = (k : Int) := by rw [IntWalk.i64_in _ (by omega)]; omega
  have hkl : k ≤ s.size := by omega
  have hkl' : (k : Int) ≤ (s.size : Int) := by omega
  have hk00 : 0 ≤ (k : Int) := by omega
  have e1 : (s.extract 0 k).size = k := by rw [← bs_length, bs_front, List.length_take, bs_length]; omega
  have e2 : (s.extract k s.size).size = s.size - k := by rw [ext_size]
  have n1 : ¬ (9223372036854775807 < k + 1) := by omega
  have n2 : ¬ (9223372036854775807 < k + 1 + (s.size - k)) := by omega
  have n3 : ¬ (9223372036854775807 < 1 + k) := by omega
  have n4 : ¬ (9223372036854775807 < 1 + k + 1) := by omega
  have n5 : ¬ (9223372036854775807 < 1 + k + 1 + (s.size - k)) := by omega
  have hmm : betw (m : Int) (-7) 20 = true := by rw [← hm]; exact hw
  rw [hr]
  clear hr hcan hk0 hh
  cases n
  · go_enter Tryz.func42, Tryz.ntmps42
    go_wp2_with fail
    refine (within_any _ _ _ _).mono ?_
    rintro e w1 ⟨rfl, hw1⟩
    subst hw1
    rw [hmm]
    obtain ⟨w0, hw0, hz0, hb0, hc0, hf0⟩ := one_laid w false s x
    rw [hw0]
    clear hw0
    go_wp2
    go_quiet (fail)
    go_wp2
    go_ret
    refine ⟨num_ret (bs_inj ?_), drewN_below hb0 nq⟩
    simp only [bs_app, bs_ofL, signL, bs_front, bs_ext]
    first | rfl | (simp [bs]; done) | trace_state
  · go_enter Tryz.func42, Tryz.ntmps42
    go_wp2_with fail
    refine (within_any _ _ _ _).mono ?_
    rintro e w1 ⟨rfl, hw1⟩
    subst hw1
    rw [hmm]
    obtain ⟨w0, hw0, hz0, hb0, hc0, hf0⟩ := one_laid w true s x
    rw [hw0]
    clear hw0
    go_wp2
    go_quiet (fail)
    go_wp2
    go_ret
    refine ⟨num_ret (bs_inj ?_), drewN_below hb0 nq⟩
    simp only [bs_app, bs_ofL, signL, bs_front, bs_ext]
    first | rfl | (simp [bs]; done) | trace_state

set_option maxRecDepth 10000 in
set_option maxHeartbeats 1000000 in
theorem decText_ahead (n : Bool) (s : ByteArray) (x : Int) (w : World) (hk : decOk n (bs s) x = true) (h0 : 0 < s.size) (hw : betw (x + s.size - 1) (-7) 20 = true) (hx0 : x < 0) (hh : x + s.size - 1 < 0) :
    Calls Tryz.prog 42 #[.agg #[.bool n, .string s, .int .i64 x]] w fun e w' => e = .returned (.string (ofL (textL n (bs s) x))) ∧ Below w.heap.size w w' := by
  have hne := ne_nil h0
  obtain ⟨hcan, hv, -, -⟩ := form_same hk hne
  obtain ⟨a1, a2, a3, -⟩ := dec_facts hk
  have hemp := isEmpty_no h0
  obtain ⟨m, hm⟩ : ∃ m : Nat, -(x + (s.size : Int) - 1) - 1 = (m : Int) := ⟨(-(x + (s.size : Int) - 1) - 1).toNat, by omega⟩
  have hr : textL n (bs s) x = signL n ++ [48, 46] ++ zs m ++ bs s := by
    unfold textL
    rw [if_neg hne, bs_length, hw, if_neg (by simp), if_neg (by omega), if_pos hh, hm, Int.toNat_natCast]
  obtain ⟨h, hhv⟩ : ∃ h, x + (s.size : Int) - 1 = h := ⟨_, rfl⟩
  have hmm : betw h (-7) 20 = true := by rw [← hhv]; exact hw
  have hml : m ≤ 200 := by omega
  have hh1 : h < 0 := by omega
  have hh2 : h = -((m : Int) + 1) := by omega
  obtain ⟨q, hq⟩ : ∃ q : Nat, q = m + 1 := ⟨_, rfl⟩
  have k1 : IntKind.i64.wrap (-h) = (q : Int) := by rw [IntWalk.i64_in _ (by omega)]; omega
  have k2 : IntKind.i64.wrap ((q : Int) - 1) = (m : Int) := by rw [IntWalk.i64_in _ (by omega)]; omega
  have hR := Lib.hid (fun w => repeat_zs m w (by omega))
  have hZ := size_ofL (zs m)
  rw [zs_len] at hZ
  have n1 : ¬ (9223372036854775807 < 2 + m) := by omega
  have n2 : ¬ (9223372036854775807 < 2 + m + s.size) := by omega
  have n3 : ¬ (9223372036854775807 < 1 + 2 + m) := by omega
  have n4 : ¬ (9223372036854775807 < 1 + 2 + m + s.size) := by omega
  have n5 : ¬ (9223372036854775807 < 3 + m) := by omega
  have n6 : ¬ (9223372036854775807 < 3 + m + s.size) := by omega
  rw [hr]
  clear hr hcan hm hh hh2 hq
  cases n
  · go_enter Tryz.func42, Tryz.ntmps42
    go_wp2_with fail
    refine (within_any _ _ _ _).mono ?_
    rintro e w1 ⟨rfl, hw1⟩
    subst hw1
    rw [hmm]
    obtain ⟨w0, hw0, hz0, hb0, hc0, hf0⟩ := one_laid w false s x
    rw [hw0]
    clear hw0
    go_wp2_with fail
    go_region_held3 (fun w' => w'.cell? ⟨w.heap.size, 0, none⟩ = some (.bool false) ∧ w'.cell? ⟨w.heap.size, 1, none⟩ = some (.string s) ∧ w'.cell? ⟨w.heap.size, 2, none⟩ = some (.int .i64 x)) (first | assumption | go_keep)
      (first | (go_at_call 71; refine (hR.out _).mono ?_; rintro e w2 ⟨rfl, hb2⟩; obtain ⟨hz2, hc2, hf2⟩ := one_kept hb2 (by assumption) (by assumption) (by assumption)))
    have hv2 := (Below.drew hb0).trans (hb2.mono (Below.drew hb0).size)
    go_wp2
    go_ret
    refine ⟨num_ret (bs_inj ?_), hv2⟩
    simp only [bs_app, bs_ofL, signL]
    first | rfl | (simp [bs]; done) | trace_state
  · go_enter Tryz.func42, Tryz.ntmps42
    go_wp2_with fail
    refine (within_any _ _ _ _).mono ?_
    rintro e w1 ⟨rfl, hw1⟩
    subst hw1
    rw [hmm]
    obtain ⟨w0, hw0, hz0, hb0, hc0, hf0⟩ := one_laid w true s x
    rw [hw0]
    clear hw0
    go_wp2_with fail
    go_region_held3 (fun w' => w'.cell? ⟨w.heap.size, 0, none⟩ = some (.bool true) ∧ w'.cell? ⟨w.heap.size, 1, none⟩ = some (.string s) ∧ w'.cell? ⟨w.heap.size, 2, none⟩ = some (.int .i64 x)) (first | assumption | go_keep)
      (first | (go_at_call 71; refine (hR.out _).mono ?_; rintro e w2 ⟨rfl, hb2⟩; obtain ⟨hz2, hc2, hf2⟩ := one_kept hb2 (by assumption) (by assumption) (by assumption)))
    have hv2 := (Below.drew hb0).trans (hb2.mono (Below.drew hb0).size)
    go_wp2
    go_ret
    refine ⟨num_ret (bs_inj ?_), hv2⟩
    simp only [bs_app, bs_ofL, signL]
    first | rfl | (simp [bs]; done) | trace_state

set_option maxRecDepth 10000 in
set_option maxHeartbeats 1000000 in
theorem decText_expMP (n : Bool) (s : ByteArray) (x : Int) (w : World) (hT : PowTab w) (hk : decOk n (bs s) x = true) (h0 : 0 < s.size) (hw : betw (x + s.size - 1) (-7) 20 = false) (hsz : 1 < s.size) (hh : 0 < x + s.size - 1) :
    Calls Tryz.prog 42 #[.agg #[.bool n, .string s, .int .i64 x]] w fun e w' => e = .returned (.string (ofL (textL n (bs s) x))) ∧ Below w.heap.size w w' := by
  have hne := ne_nil h0
  obtain ⟨hcan, hv, -, -⟩ := form_same hk hne
  obtain ⟨a1, a2, a3, -⟩ := dec_facts hk
  have hemp := isEmpty_no h0
  obtain ⟨h, hhv⟩ : ∃ h, x + (s.size : Int) - 1 = h := ⟨_, rfl⟩
  have hr : textL n (bs s) x = signL n ++ (bs s).take 1 ++ 46 :: (bs s).drop 1 ++ [101, 43] ++ numL h := by
    have e : numL h = dec h.toNat := by unfold numL; rw [if_neg (by omega)]; congr 1; omega
    unfold textL
    rw [if_neg hne, bs_length, hw, if_pos rfl, if_pos hsz, hhv, if_neg (by omega), e]
    simp
  have hmm : betw h (-7) 20 = false := by rw [← hhv]; exact hw
  have hh1 : 0 < h := by omega
  have hh3 : -200 ≤ h := by omega
  have hh4 : h ≤ 200 := by omega
  have hI := Lib.hid (fun w hT => itoa_any h w (by omega) (by omega) hT)
  obtain ⟨dl, hdl⟩ : ∃ dl, (numL h).length = dl := ⟨_, rfl⟩
  have hdl2 : dl ≤ 30 := by
    have := dec_len_le 20 h.natAbs (by decide) (by omega)
    rw [← hdl]; unfold numL; split <;> simp <;> omega
  have hZ := size_ofL (numL h)
  rw [hdl] at hZ
  have e1 : (s.extract 0 1).size = 1 := by rw [← bs_length, bs_front, List.length_take, bs_length]; omega
  have e2 : (s.extract 1 s.size).size = s.size - 1 := by rw [ext_size]
  have hs1 : (1 : Int) ≤ (s.size : Int) := by omega
  have hs2 : 1 ≤ s.size := by omega
  have hs3 : (1 : Int) < (s.size : Int) := by omega
  rw [hr]
  clear hr hcan hdl hh hsz
  cases n
  · go_enter Tryz.func42, Tryz.ntmps42
    go_wp2_with fail
    refine (within_any _ _ _ _).mono ?_
    rintro e w1 ⟨rfl, hw1⟩
    subst hw1
    rw [hmm]
    obtain ⟨w0, hw0, hz0, hb0, hc0, hf0⟩ := one_laid w false s x
    rw [hw0]
    clear hw0
    go_wp2_with fail
    refine (hI.out _ (hT.below hb0)).mono ?_
    rintro e w2 ⟨rfl, hb2⟩
    go_wp2
    go_ret
    refine ⟨num_ret (bs_inj ?_), hb0.trans (hb2.mono hb0.size)⟩
    simp only [bs_app, bs_ofL, signL, bs_front, bs_ext]
    first | rfl | (simp [bs]; done) | trace_state
  · go_enter Tryz.func42, Tryz.ntmps42
    go_wp2_with fail
    refine (within_any _ _ _ _).mono ?_
    rintro e w1 ⟨rfl, hw1⟩
    subst hw1
    rw [hmm]
    obtain ⟨w0, hw0, hz0, hb0, hc0, hf0⟩ := one_laid w true s x
    rw [hw0]
    clear hw0
    go_wp2_with fail
    refine (hI.out _ (hT.below hb0)).mono ?_
    rintro e w2 ⟨rfl, hb2⟩
    go_wp2
    go_ret
    refine ⟨num_ret (bs_inj ?_), hb0.trans (hb2.mono hb0.size)⟩
    simp only [bs_app, bs_ofL, signL, bs_front, bs_ext]
    first | rfl | (simp [bs]; done) | trace_state

set_option maxRecDepth 10000 in
set_option maxHeartbeats 1000000 in
theorem decText_expMN (n : Bool) (s : ByteArray) (x : Int) (w : World) (hT : PowTab w) (hk : decOk n (bs s) x = true) (h0 : 0 < s.size) (hw : betw (x + s.size - 1) (-7) 20 = false) (hsz : 1 < s.size) (hh : x + s.size - 1 < 0) :
    Calls Tryz.prog 42 #[.agg #[.bool n, .string s, .int .i64 x]] w fun e w' => e = .returned (.string (ofL (textL n (bs s) x))) ∧ Below w.heap.size w w' := by
  have hne := ne_nil h0
  obtain ⟨hcan, hv, -, -⟩ := form_same hk hne
  obtain ⟨a1, a2, a3, -⟩ := dec_facts hk
  have hemp := isEmpty_no h0
  obtain ⟨h, hhv⟩ : ∃ h, x + (s.size : Int) - 1 = h := ⟨_, rfl⟩
  have hr : textL n (bs s) x = signL n ++ (bs s).take 1 ++ 46 :: (bs s).drop 1 ++ [101] ++ numL h := by
    have e : numL h = 45 :: dec (-h).toNat := by unfold numL; rw [if_pos (by omega)]; congr 2; omega
    unfold textL
    rw [if_neg hne, bs_length, hw, if_pos rfl, if_pos hsz, hhv, if_pos (by omega), e]
    simp
  have hmm : betw h (-7) 20 = false := by rw [← hhv]; exact hw
  have hh1 : h < 0 := by omega
  have hh3 : -200 ≤ h := by omega
  have hh4 : h ≤ 200 := by omega
  have hI := Lib.hid (fun w hT => itoa_any h w (by omega) (by omega) hT)
  obtain ⟨dl, hdl⟩ : ∃ dl, (numL h).length = dl := ⟨_, rfl⟩
  have hdl2 : dl ≤ 30 := by
    have := dec_len_le 20 h.natAbs (by decide) (by omega)
    rw [← hdl]; unfold numL; split <;> simp <;> omega
  have hZ := size_ofL (numL h)
  rw [hdl] at hZ
  have e1 : (s.extract 0 1).size = 1 := by rw [← bs_length, bs_front, List.length_take, bs_length]; omega
  have e2 : (s.extract 1 s.size).size = s.size - 1 := by rw [ext_size]
  have hs1 : (1 : Int) ≤ (s.size : Int) := by omega
  have hs2 : 1 ≤ s.size := by omega
  have hs3 : (1 : Int) < (s.size : Int) := by omega
  rw [hr]
  clear hr hcan hdl hh hsz
  cases n
  · go_enter Tryz.func42, Tryz.ntmps42
    go_wp2_with fail
    refine (within_any _ _ _ _).mono ?_
    rintro e w1 ⟨rfl, hw1⟩
    subst hw1
    rw [hmm]
    obtain ⟨w0, hw0, hz0, hb0, hc0, hf0⟩ := one_laid w false s x
    rw [hw0]
    clear hw0
    go_wp2_with fail
    refine (hI.out _ (hT.below hb0)).mono ?_
    rintro e w2 ⟨rfl, hb2⟩
    go_wp2
    go_ret
    refine ⟨num_ret (bs_inj ?_), hb0.trans (hb2.mono hb0.size)⟩
    simp only [bs_app, bs_ofL, signL, bs_front, bs_ext]
    first | rfl | (simp [bs]; done) | trace_state
  · go_enter Tryz.func42, Tryz.ntmps42
    go_wp2_with fail
    refine (within_any _ _ _ _).mono ?_
    rintro e w1 ⟨rfl, hw1⟩
    subst hw1
    rw [hmm]
    obtain ⟨w0, hw0, hz0, hb0, hc0, hf0⟩ := one_laid w true s x
    rw [hw0]
    clear hw0
    go_wp2_with fail
    refine (hI.out _ (hT.below hb0)).mono ?_
    rintro e w2 ⟨rfl, hb2⟩
    go_wp2
    go_ret
    refine ⟨num_ret (bs_inj ?_), hb0.trans (hb2.mono hb0.size)⟩
    simp only [bs_app, bs_ofL, signL, bs_front, bs_ext]
    first | rfl | (simp [bs]; done) | trace_state

set_option maxRecDepth 10000 in
set_option maxHeartbeats 1000000 in
theorem decText_expOP (n : Bool) (s : ByteArray) (x : Int) (w : World) (hT : PowTab w) (hk : decOk n (bs s) x = true) (h0 : 0 < s.size) (hw : betw (x + s.size - 1) (-7) 20 = false) (hsz : s.size = 1) (hh : 0 < x + s.size - 1) :
    Calls Tryz.prog 42 #[.agg #[.bool n, .string s, .int .i64 x]] w fun e w' => e = .returned (.string (ofL (textL n (bs s) x))) ∧ Below w.heap.size w w' := by
  have hne := ne_nil h0
  obtain ⟨hcan, hv, -, -⟩ := form_same hk hne
  obtain ⟨a1, a2, a3, -⟩ := dec_facts hk
  have hemp := isEmpty_no h0
  obtain ⟨h, hhv⟩ : ∃ h, x + (s.size : Int) - 1 = h := ⟨_, rfl⟩
  have hr : textL n (bs s) x = signL n ++ (bs s).take 1 ++ [] ++ [101, 43] ++ numL h := by
    have e : numL h = dec h.toNat := by unfold numL; rw [if_neg (by omega)]; congr 1; omega
    unfold textL
    rw [if_neg hne, bs_length, hw, if_pos rfl, if_neg (by omega), hhv, if_neg (by omega), e]
    simp
  have hmm : betw h (-7) 20 = false := by rw [← hhv]; exact hw
  have hh1 : 0 < h := by omega
  have hh3 : -200 ≤ h := by omega
  have hh4 : h ≤ 200 := by omega
  have hI := Lib.hid (fun w hT => itoa_any h w (by omega) (by omega) hT)
  obtain ⟨dl, hdl⟩ : ∃ dl, (numL h).length = dl := ⟨_, rfl⟩
  have hdl2 : dl ≤ 30 := by
    have := dec_len_le 20 h.natAbs (by decide) (by omega)
    rw [← hdl]; unfold numL; split <;> simp <;> omega
  have hZ := size_ofL (numL h)
  rw [hdl] at hZ
  have e1 : (s.extract 0 1).size = 1 := by rw [← bs_length, bs_front, List.length_take, bs_length]; omega
  have e2 : (s.extract 1 s.size).size = s.size - 1 := by rw [ext_size]
  have hs1 : (1 : Int) ≤ (s.size : Int) := by omega
  have hs2 : 1 ≤ s.size := by omega
  have hs3 : ¬ (1 : Int) < (s.size : Int) := by omega
  rw [hr]
  clear hr hcan hdl hh hsz
  cases n
  · go_enter Tryz.func42, Tryz.ntmps42
    go_wp2_with fail
    refine (within_any _ _ _ _).mono ?_
    rintro e w1 ⟨rfl, hw1⟩
    subst hw1
    rw [hmm]
    obtain ⟨w0, hw0, hz0, hb0, hc0, hf0⟩ := one_laid w false s x
    rw [hw0]
    clear hw0
    go_wp2_with fail
    refine (hI.out _ (hT.below hb0)).mono ?_
    rintro e w2 ⟨rfl, hb2⟩
    go_wp2
    go_ret
    refine ⟨num_ret (bs_inj ?_), hb0.trans (hb2.mono hb0.size)⟩
    simp only [bs_app, bs_ofL, signL, bs_front, bs_ext]
    first | rfl | (simp [bs]; done) | trace_state
  · go_enter Tryz.func42, Tryz.ntmps42
    go_wp2_with fail
    refine (within_any _ _ _ _).mono ?_
    rintro e w1 ⟨rfl, hw1⟩
    subst hw1
    rw [hmm]
    obtain ⟨w0, hw0, hz0, hb0, hc0, hf0⟩ := one_laid w true s x
    rw [hw0]
    clear hw0
    go_wp2_with fail
    refine (hI.out _ (hT.below hb0)).mono ?_
    rintro e w2 ⟨rfl, hb2⟩
    go_wp2
    go_ret
    refine ⟨num_ret (bs_inj ?_), hb0.trans (hb2.mono hb0.size)⟩
    simp only [bs_app, bs_ofL, signL, bs_front, bs_ext]
    first | rfl | (simp [bs]; done) | trace_state

set_option maxRecDepth 10000 in
set_option maxHeartbeats 1000000 in
theorem decText_expON (n : Bool) (s : ByteArray) (x : Int) (w : World) (hT : PowTab w) (hk : decOk n (bs s) x = true) (h0 : 0 < s.size) (hw : betw (x + s.size - 1) (-7) 20 = false) (hsz : s.size = 1) (hh : x + s.size - 1 < 0) :
    Calls Tryz.prog 42 #[.agg #[.bool n, .string s, .int .i64 x]] w fun e w' => e = .returned (.string (ofL (textL n (bs s) x))) ∧ Below w.heap.size w w' := by
  have hne := ne_nil h0
  obtain ⟨hcan, hv, -, -⟩ := form_same hk hne
  obtain ⟨a1, a2, a3, -⟩ := dec_facts hk
  have hemp := isEmpty_no h0
  obtain ⟨h, hhv⟩ : ∃ h, x + (s.size : Int) - 1 = h := ⟨_, rfl⟩
  have hr : textL n (bs s) x = signL n ++ (bs s).take 1 ++ [] ++ [101] ++ numL h := by
    have e : numL h = 45 :: dec (-h).toNat := by unfold numL; rw [if_pos (by omega)]; congr 2; omega
    unfold textL
    rw [if_neg hne, bs_length, hw, if_pos rfl, if_neg (by omega), hhv, if_pos (by omega), e]
    simp
  have hmm : betw h (-7) 20 = false := by rw [← hhv]; exact hw
  have hh1 : h < 0 := by omega
  have hh3 : -200 ≤ h := by omega
  have hh4 : h ≤ 200 := by omega
  have hI := Lib.hid (fun w hT => itoa_any h w (by omega) (by omega) hT)
  obtain ⟨dl, hdl⟩ : ∃ dl, (numL h).length = dl := ⟨_, rfl⟩
  have hdl2 : dl ≤ 30 := by
    have := dec_len_le 20 h.natAbs (by decide) (by omega)
    rw [← hdl]; unfold numL; split <;> simp <;> omega
  have hZ := size_ofL (numL h)
  rw [hdl] at hZ
  have e1 : (s.extract 0 1).size = 1 := by rw [← bs_length, bs_front, List.length_take, bs_length]; omega
  have e2 : (s.extract 1 s.size).size = s.size - 1 := by rw [ext_size]
  have hs1 : (1 : Int) ≤ (s.size : Int) := by omega
  have hs2 : 1 ≤ s.size := by omega
  have hs3 : ¬ (1 : Int) < (s.size : Int) := by omega
  rw [hr]
  clear hr hcan hdl hh hsz
  cases n
  · go_enter Tryz.func42, Tryz.ntmps42
    go_wp2_with fail
    refine (within_any _ _ _ _).mono ?_
    rintro e w1 ⟨rfl, hw1⟩
    subst hw1
    rw [hmm]
    obtain ⟨w0, hw0, hz0, hb0, hc0, hf0⟩ := one_laid w false s x
    rw [hw0]
    clear hw0
    go_wp2_with fail
    refine (hI.out _ (hT.below hb0)).mono ?_
    rintro e w2 ⟨rfl, hb2⟩
    go_wp2
    go_ret
    refine ⟨num_ret (bs_inj ?_), hb0.trans (hb2.mono hb0.size)⟩
    simp only [bs_app, bs_ofL, signL, bs_front, bs_ext]
    first | rfl | (simp [bs]; done) | trace_state
  · go_enter Tryz.func42, Tryz.ntmps42
    go_wp2_with fail
    refine (within_any _ _ _ _).mono ?_
    rintro e w1 ⟨rfl, hw1⟩
    subst hw1
    rw [hmm]
    obtain ⟨w0, hw0, hz0, hb0, hc0, hf0⟩ := one_laid w true s x
    rw [hw0]
    clear hw0
    go_wp2_with fail
    refine (hI.out _ (hT.below hb0)).mono ?_
    rintro e w2 ⟨rfl, hb2⟩
    go_wp2
    go_ret
    refine ⟨num_ret (bs_inj ?_), hb0.trans (hb2.mono hb0.size)⟩
    simp only [bs_app, bs_ofL, signL, bs_front, bs_ext]
    first | rfl | (simp [bs]; done) | trace_state
end Go.Proofs.YtjjpdoabagnmoaaGreatDoor

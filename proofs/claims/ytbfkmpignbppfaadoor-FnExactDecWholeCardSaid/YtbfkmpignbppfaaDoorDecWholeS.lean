/-
  The contract of the reference's DecWhole. Conditions: a number within the bounds of a walk.
-/
import Derived.Test.YtbfkmpignbppfaaDoorDecWhole
import Derived.Test.YtbfkmpignbppfaaDoorPair
namespace Go.Proofs.YtbfkmpignbppfaaDoor
open Go.RowKit
set_option linter.unusedVariables false
set_option linter.unusedSimpArgs false

theorem specDecWhole_no (n : Bool) (s : ByteArray) (x : Int) (w : World) (hs : s.size ≤ maxLen) (hx : (Lit.int .i64 x).wf = true) (h : decOk n (bs s) x = false ∨ x < 0 ∨ 19 < x + s.size) :
    Calls Tryd.prog 23 #[.agg #[.bool n, .string s, .int .i64 x]] w fun e w' => e = .returned (.tuple #[.int .i64 0, .bool false]) ∧ Below w.heap.size w w' := by
  cases hk : decOk n (bs s) x
  · go_enter Tryd.func23, Tryd.ntmps23
    go_wp2_with (go_at_call 39; refine (specDecOk_any _ _ _ _ hs hx).mono ?_; rintro e w1 ⟨rfl, hb1⟩; obtain ⟨hb1c, hb1f⟩ := bcell hb1; have hb1q := hb1.size; (try simp at hb1q); have hb1q0 : w.heap.size < w1.heap.size := (by omega))
    refine bodyPost_ret (v := .tuple #[.int .i64 0, .bool false]) (by simp [results, Tryd.results23, go_sem, *]) rfl ⟨rfl, ?_⟩
    go_light
    (repeat (first | exact Below.refl _ _ | assumption | refine Below.drew ?_ | refine below_drewN ?_ _ | (refine Below.alloc ?_ (by first | exact Nat.le_refl _ | (simp; done) | (simp; omega) | (simp at *; omega)) _) | (refine Below.setCell ?_ (by first | exact Nat.le_refl _ | (simp; done) | (simp; omega)) _) | (refine Below.trans ?_ (Below.mono (by assumption) (by first | exact Nat.le_refl _ | (simp; done) | (simp; omega) | (simp at *; omega))))))
  · obtain ⟨a1, a2, a3, -⟩ := dec_facts hk
    rw [hk] at h
    by_cases h2 : x < 0
    · go_enter Tryd.func23, Tryd.ntmps23
      go_wp2_with (go_at_call 39; refine (specDecOk_any _ _ _ _ hs hx).mono ?_; rintro e w1 ⟨rfl, hb1⟩; obtain ⟨hb1c, hb1f⟩ := bcell hb1; have hb1q := hb1.size; (try simp at hb1q); have hb1q0 : w.heap.size < w1.heap.size := (by omega))
      refine bodyPost_ret (v := .tuple #[.int .i64 0, .bool false]) (by simp [results, Tryd.results23, go_sem, *]) rfl ⟨rfl, ?_⟩
      go_light
      (repeat (first | exact Below.refl _ _ | assumption | refine Below.drew ?_ | refine below_drewN ?_ _ | (refine Below.alloc ?_ (by first | exact Nat.le_refl _ | (simp; done) | (simp; omega) | (simp at *; omega)) _) | (refine Below.setCell ?_ (by first | exact Nat.le_refl _ | (simp; done) | (simp; omega)) _) | (refine Below.trans ?_ (Below.mono (by assumption) (by first | exact Nat.le_refl _ | (simp; done) | (simp; omega) | (simp at *; omega))))))
    · have h3 : 19 < x + s.size := by
        rcases h with h | h | h
        · cases h
        · omega
        · exact h
      clear h
      go_enter Tryd.func23, Tryd.ntmps23
      go_wp2_with (go_at_call 39; refine (specDecOk_any _ _ _ _ hs hx).mono ?_; rintro e w1 ⟨rfl, hb1⟩; obtain ⟨hb1c, hb1f⟩ := bcell hb1; have hb1q := hb1.size; (try simp at hb1q); have hb1q0 : w.heap.size < w1.heap.size := (by omega))
      refine bodyPost_ret (v := .tuple #[.int .i64 0, .bool false]) (by simp [results, Tryd.results23, go_sem, *]) rfl ⟨rfl, ?_⟩
      go_light
      (repeat (first | exact Below.refl _ _ | assumption | refine Below.drew ?_ | refine below_drewN ?_ _ | (refine Below.alloc ?_ (by first | exact Nat.le_refl _ | (simp; done) | (simp; omega) | (simp at *; omega)) _) | (refine Below.setCell ?_ (by first | exact Nat.le_refl _ | (simp; done) | (simp; omega)) _) | (refine Below.trans ?_ (Below.mono (by assumption) (by first | exact Nat.le_refl _ | (simp; done) | (simp; omega) | (simp at *; omega))))))

theorem take_val_le (l : List UInt8) (j : Nat) : val (l.take j) ≤ val l := by
  have h := val_append (l.take j) (l.drop j)
  rw [List.take_append_drop] at h
  have : val (l.take j) ≤ val (l.take j) * 10 ^ (l.drop j).length := Nat.le_mul_of_pos_right _ (Nat.pow_pos (by decide))
  omega
theorem take_dig (l : List UInt8) (j : Nat) (h : j < l.length) : val (l.take (j + 1)) = 10 * val (l.take j) + (l[j].toNat - 48) := by
  rw [← List.take_append_getElem h, val_snoc]
theorem bs_dig {T : ByteArray} (h : (bs T).all isDig = true) (j : Nat) (hj : j < T.size) : isDig T[j] = true := by
  rw [← bs_get T j hj]
  exact List.all_eq_true.1 h _ (List.getElem_mem _)
set_option maxRecDepth 10000 in
set_option maxHeartbeats 1000000 in
theorem specDecWhole_some (n : Bool) (s : ByteArray) (k : Nat) (w : World) (hs : s.size ≤ maxLen) (hx : (Lit.int .i64 (k : Int)).wf = true) (hk : decOk n (bs s) (k : Int) = true) (hk1 : k + s.size ≤ 19) (V : Nat) (hV : val (bs s) * 10 ^ k = V) (T : ByteArray) (hT : s ++ ofL (zs k) = T) (h19 : ¬ (T.size = 19 ∧ T ≠ ⟨#[49, 48, 48, 48, 48, 48, 48, 48, 48, 48, 48, 48, 48, 48, 48, 48, 48, 48, 48]⟩)) :
    Calls Tryd.prog 23 #[.agg #[.bool n, .string s, .int .i64 (k : Int)]] w fun e w' => e = .returned (.tuple #[.int .i64 (wholeI n V), .bool true]) ∧ Below w.heap.size w w' := by
  have hZ := Lib.hid (fun w => l02Zeros_any k w (by omega))
  have hzz := size_ofL (zs k)
  rw [zs_len] at hzz
  have hsum : ((s.size : Nat) : Int) + (k : Int) ≤ 19 := by omega
  have hTb : bs T = bs s ++ zs k := by rw [← hT, bs_app, bs_ofL]
  have hTs : T.size = s.size + k := by rw [← bs_length, hTb, List.length_append, bs_length, zs_len]
  have hTv : val (bs T) = V := by rw [hTb, val_zs, hV]
  have hTa : (bs T).all isDig = true := by
    rw [hTb]
    refine all_zs ?_ k
    by_cases h0 : 0 < s.size
    · exact (form_same hk (ne_nil h0)).1.dig
    · rw [bs_empty (by omega)]; rfl
  have hT19 : T.size ≤ 19 := by omega
  have HTA := Lib.hid (And.intro hTa hTv)
  have n1 : ¬ (9223372036854775807 < s.size + k) := by omega
  have hk' : decOk n (bs s) (k : Int) = true := hk
  have hsplit : T.size ≠ 19 ∨ (T.size = 19 ∧ T = ⟨#[49, 48, 48, 48, 48, 48, 48, 48, 48, 48, 48, 48, 48, 48, 48, 48, 48, 48, 48]⟩) := by
    by_cases h : T.size = 19
    · exact .inr ⟨h, Classical.byContradiction fun hn => h19 ⟨h, hn⟩⟩
    · exact .inl h
  rcases hsplit with hne | ⟨heq, hlit⟩
  · have hne1 : ((T.size : Int) == 19) = false := beq_eq_false_iff_ne.2 (by omega)
    have hVle : V ≤ 1000000000000000000 := by
      have h1 := val_lt (bs T) hTa
      rw [hTv, bs_length] at h1
      have h2 := Nat.pow_le_pow_right (n := 10) (by decide) (show T.size ≤ 18 by omega)
      exact Nat.le_of_lt (Nat.lt_of_lt_of_le h1 h2)
    clear h19 hTb hTs hTv hTa hV hne
    go_enter Tryd.func23, Tryd.ntmps23
    go_wp2_with fail
    refine (specDecOk_any n s (k : Int) _ hs hx).mono ?_
    rintro e w1 ⟨rfl, hb1⟩
    rw [hk]
    obtain ⟨w0, hw0, hz0, hb0, hc0, hf0⟩ := one_laid w n s (k : Int)
    rw [hw0] at hb1
    obtain ⟨hz1, hc1, hf1⟩ := one_kept hb1 hz0 hc0 hf0
    have hv1 := hb0.trans (hb1.mono hb0.size)
    clear hw0 hz0 hb0 hc0 hf0 hb1
    go_wp2_with fail
    go_region_held3 (fun w' => w'.cell? ⟨w.heap.size, 0, none⟩ = some (.bool n) ∧ w'.cell? ⟨w.heap.size, 1, none⟩ = some (.string s) ∧ w'.cell? ⟨w.heap.size, 2, none⟩ = some (.int .i64 (k : Int))) (first | assumption | go_keep)
      (first | (go_at_call 42; refine (hZ.out _).mono ?_; rintro e w2 ⟨rfl, hb2⟩; obtain ⟨hz2, hc2, hf2⟩ := one_kept hb2 (by assumption) (by assumption) (by assumption)))
    have hv2 := (Below.drew hv1).trans (hb2.mono (Below.drew hv1).size)
    clear hb2 hz1 hc1 hf1 hv1
    go_wp2
    go_loop [5, 6] (fun v i => ∃ j : Nat, j ≤ T.size ∧ i = .int .i64 (j : Int) ∧ v = .int .i64 (val ((bs T).take j) : Nat)) (fun _ i => T.size - (intOf i).toNat)
    case atStart => exact ⟨0, Nat.zero_le _, rfl, rfl⟩
    case round =>
      obtain ⟨j, hj, rfl, rfl⟩ := hrel
      by_cases hlt : j < T.size
      · have hlt' : (j : Int) < (T.size : Int) := by omega
        have hd := isDig_le (bs_dig HTA.out.1 j hlt)
        have hq3 : 48 ≤ (T[j].toNat : Int) := by omega
        have hq4 : (T[j].toNat : Int) ≤ 57 := by omega
        have HTK := Lib.hid (take_dig (bs T) j (by rw [bs_length]; exact hlt))
        have hle := take_val_le (bs T) (j + 1)
        have hbg := bs_get T j hlt
        rw [HTK.out, hbg, HTA.out.2] at hle
        obtain ⟨N, hN⟩ : ∃ N, val ((bs T).take j) = N := ⟨_, rfl⟩
        rw [hN] at hle ⊢
        have HN := Lib.hid hN
        have HBG := Lib.hid hbg
        have hNb : N ≤ 100000000000000000 := by omega
        clear hN hbg
        go_wp2
        refine ⟨⟨j + 1, by omega, by go_num, ?_⟩, by simp [intOf]; omega⟩
        rw [HTK.out, HBG.out, HN.out]
        congr 1
        omega
      · have hjs : j = T.size := by omega
        have HV := Lib.hid (show val ((bs T).take j) = V by rw [hjs, ← bs_length T, List.take_length, HTA.out.2])
        rw [HV.out]
        have hlt' : ¬ (j : Int) < (T.size : Int) := by omega
        clear hjs hlt
        cases n
        · go_wp2
          refine bodyPost_ret (v := .tuple #[.int .i64 (V : Int), .bool true]) (by simp [results, Tryd.results23, go_sem, *]) rfl ?_
          exact ⟨rfl, hv2⟩
        · go_wp2
          refine bodyPost_ret (v := .tuple #[.int .i64 (-(V : Int)), .bool true]) (by simp [results, Tryd.results23, go_sem, *]) rfl ?_
          exact ⟨rfl, hv2⟩
  · have hne1 : ((T.size : Int) == 19) = true := beq_iff_eq.2 (by omega)
    have hne2 : (T.toList == [49, 48, 48, 48, 48, 48, 48, 48, 48, 48, 48, 48, 48, 48, 48, 48, 48, 48, 48]) = true := by rw [toList_bs, hlit]; rfl
    have hVle : V ≤ 1000000000000000000 := by
      rw [← hTv, hlit, lit18, bs_ofL, val_dec]
      exact Nat.le_refl _
    clear h19 hTb hTs hTv hTa hV heq hlit
    go_enter Tryd.func23, Tryd.ntmps23
    go_wp2_with fail
    refine (specDecOk_any n s (k : Int) _ hs hx).mono ?_
    rintro e w1 ⟨rfl, hb1⟩
    rw [hk]
    obtain ⟨w0, hw0, hz0, hb0, hc0, hf0⟩ := one_laid w n s (k : Int)
    rw [hw0] at hb1
    obtain ⟨hz1, hc1, hf1⟩ := one_kept hb1 hz0 hc0 hf0
    have hv1 := hb0.trans (hb1.mono hb0.size)
    clear hw0 hz0 hb0 hc0 hf0 hb1
    go_wp2_with fail
    go_region_held3 (fun w' => w'.cell? ⟨w.heap.size, 0, none⟩ = some (.bool n) ∧ w'.cell? ⟨w.heap.size, 1, none⟩ = some (.string s) ∧ w'.cell? ⟨w.heap.size, 2, none⟩ = some (.int .i64 (k : Int))) (first | assumption | go_keep)
      (first | (go_at_call 42; refine (hZ.out _).mono ?_; rintro e w2 ⟨rfl, hb2⟩; obtain ⟨hz2, hc2, hf2⟩ := one_kept hb2 (by assumption) (by assumption) (by assumption)))
    have hv2 := (Below.drew hv1).trans (hb2.mono (Below.drew hv1).size)
    clear hb2 hz1 hc1 hf1 hv1
    go_wp2
    go_loop [5, 6] (fun v i => ∃ j : Nat, j ≤ T.size ∧ i = .int .i64 (j : Int) ∧ v = .int .i64 (val ((bs T).take j) : Nat)) (fun _ i => T.size - (intOf i).toNat)
    case atStart => exact ⟨0, Nat.zero_le _, rfl, rfl⟩
    case round =>
      obtain ⟨j, hj, rfl, rfl⟩ := hrel
      by_cases hlt : j < T.size
      · have hlt' : (j : Int) < (T.size : Int) := by omega
        have hd := isDig_le (bs_dig HTA.out.1 j hlt)
        have hq3 : 48 ≤ (T[j].toNat : Int) := by omega
        have hq4 : (T[j].toNat : Int) ≤ 57 := by omega
        have HTK := Lib.hid (take_dig (bs T) j (by rw [bs_length]; exact hlt))
        have hle := take_val_le (bs T) (j + 1)
        have hbg := bs_get T j hlt
        rw [HTK.out, hbg, HTA.out.2] at hle
        obtain ⟨N, hN⟩ : ∃ N, val ((bs T).take j) = N := ⟨_, rfl⟩
        rw [hN] at hle ⊢
        have HN := Lib.hid hN
        have HBG := Lib.hid hbg
        have hNb : N ≤ 100000000000000000 := by omega
        clear hN hbg
        go_wp2
        refine ⟨⟨j + 1, by omega, by go_num, ?_⟩, by simp [intOf]; omega⟩
        rw [HTK.out, HBG.out, HN.out]
        congr 1
        omega
      · have hjs : j = T.size := by omega
        have HV := Lib.hid (show val ((bs T).take j) = V by rw [hjs, ← bs_length T, List.take_length, HTA.out.2])
        rw [HV.out]
        have hlt' : ¬ (j : Int) < (T.size : Int) := by omega
        clear hjs hlt
        cases n
        · go_wp2
          refine bodyPost_ret (v := .tuple #[.int .i64 (V : Int), .bool true]) (by simp [results, Tryd.results23, go_sem, *]) rfl ?_
          exact ⟨rfl, hv2⟩
        · go_wp2
          refine bodyPost_ret (v := .tuple #[.int .i64 (-(V : Int)), .bool true]) (by simp [results, Tryd.results23, go_sem, *]) rfl ?_
          exact ⟨rfl, hv2⟩
set_option maxRecDepth 10000 in
set_option maxHeartbeats 1000000 in
theorem specDecWhole_19 (n : Bool) (s : ByteArray) (k : Nat) (w : World) (hs : s.size ≤ maxLen) (hx : (Lit.int .i64 (k : Int)).wf = true) (hk : decOk n (bs s) (k : Int) = true) (hk1 : k + s.size ≤ 19) (V : Nat) (hV : val (bs s) * 10 ^ k = V) (T : ByteArray) (hT : s ++ ofL (zs k) = T) (h19 : (T.size = 19 ∧ T ≠ ⟨#[49, 48, 48, 48, 48, 48, 48, 48, 48, 48, 48, 48, 48, 48, 48, 48, 48, 48, 48]⟩)) :
    Calls Tryd.prog 23 #[.agg #[.bool n, .string s, .int .i64 (k : Int)]] w fun e w' => e = .returned (.tuple #[.int .i64 0, .bool false]) ∧ Below w.heap.size w w' := by
  have hZ := Lib.hid (fun w => l02Zeros_any k w (by omega))
  have hzz := size_ofL (zs k)
  rw [zs_len] at hzz
  have hsum : ((s.size : Nat) : Int) + (k : Int) ≤ 19 := by omega
  have n1 : ¬ (9223372036854775807 < s.size + k) := by omega
  obtain ⟨heq, hlit⟩ := h19
  have hne1 : ((T.size : Int) == 19) = true := beq_iff_eq.2 (by omega)
  have hne2 : (T.toList == [49, 48, 48, 48, 48, 48, 48, 48, 48, 48, 48, 48, 48, 48, 48, 48, 48, 48, 48]) = false := by
    rw [toList_bs]
    refine beq_eq_false_iff_ne.2 fun e => hlit (bs_inj ?_)
    rw [e]
  clear hV heq hlit
  go_enter Tryd.func23, Tryd.ntmps23
  go_wp2_with fail
  refine (specDecOk_any n s (k : Int) _ hs hx).mono ?_
  rintro e w1 ⟨rfl, hb1⟩
  rw [hk]
  obtain ⟨w0, hw0, hz0, hb0, hc0, hf0⟩ := one_laid w n s (k : Int)
  rw [hw0] at hb1
  obtain ⟨hz1, hc1, hf1⟩ := one_kept hb1 hz0 hc0 hf0
  have hv1 := hb0.trans (hb1.mono hb0.size)
  clear hw0 hz0 hb0 hc0 hf0 hb1
  go_wp2_with fail
  go_region_held3 (fun w' => w'.cell? ⟨w.heap.size, 0, none⟩ = some (.bool n) ∧ w'.cell? ⟨w.heap.size, 1, none⟩ = some (.string s) ∧ w'.cell? ⟨w.heap.size, 2, none⟩ = some (.int .i64 (k : Int))) (first | assumption | go_keep)
    (first | (go_at_call 42; refine (hZ.out _).mono ?_; rintro e w2 ⟨rfl, hb2⟩; obtain ⟨hz2, hc2, hf2⟩ := one_kept hb2 (by assumption) (by assumption) (by assumption)))
  have hv2 := (Below.drew hv1).trans (hb2.mono (Below.drew hv1).size)
  clear hb2 hz1 hc1 hf1 hv1
  go_wp2
  refine bodyPost_ret (v := .tuple #[.int .i64 0, .bool false]) (by simp [results, Tryd.results23, go_sem, *]) rfl ?_
  exact ⟨rfl, hv2⟩
end Go.Proofs.YtbfkmpignbppfaaDoor

/-
  Texts of this claim in one file, in build order: FormS. Each says ahead what it proves and under which conditions.
-/
import Derived.Test.YtjjpdoabagnmoaaGreatDoorQ05
/-
  The contract of spec.l03Form: formV of the digits' value. Conditions: digits, at most 2 to the 30 of them, an exponent of at most 2 to the 40.
-/
namespace Go.Proofs.YtjjpdoabagnmoaaGreatDoor
open Go.RowKit
set_option linter.unusedVariables false
set_option linter.unusedSimpArgs false

theorem strip_take {l t : List UInt8} {k i : Nat} (h : l = t ++ zs k) (hi : i ≤ k) : l.take (l.length - i) = t ++ zs (k - i) := by
  have hl : l.length = t.length + k := by rw [h, List.length_append, zs_len]
  rw [hl, h, List.take_append, List.take_of_length_le (by omega)]
  congr 1
  unfold zs
  rw [List.take_replicate]
  congr 1
  omega

set_option maxRecDepth 10000 in
set_option maxHeartbeats 1000000 in
theorem l03Form_any (n : Bool) (s : ByteArray) (x : Int) (w : World) (hd : (bs s).all isDig = true) (hs : s.size ≤ 1073741824) (hx : -1099511627776 ≤ x) (hx2 : x ≤ 1099511627776) :
    Calls Tryz.prog 59 #[.bool n, .string s, .int .i64 x, .bool false] w fun e w' => e = .returned (formV n (val (bs s)) x) ∧ Below w.heap.size w w' := by
  have hdd := hd
  have HDS := Lib.hid (show s.size ≤ 1099511627776 by omega)
  have htl := trimZ_len (bs s)
  have htr := trimZ_dec (bs s) hdd
  rw [htr, bs_length] at htl
  have HTR := Lib.hid htr
  obtain ⟨v, hv⟩ : ∃ v, val (bs s) = v := ⟨_, rfl⟩
  rw [hv] at htl HTR ⊢
  clear htr hv hd hdd
  obtain ⟨q, hq, hqb, hqs⟩ := dec_size v
  have HQ := Lib.hid hq
  have hl1 := dec_len v
  obtain ⟨r, hr, hrb, hrs⟩ := dec_size (fR v)
  have HR := Lib.hid hr
  have hft := fT_len v
  have htl2 := fT_len_le v
  have hfr : (dec (fR v)).length ≤ 21 := dec_len_le 21 _ (by omega) (by have := fR_le v; omega)
  by_cases h0 : v = 0
  · have e1 : formV n v x = numV false [] 0 0 := by unfold formV; rw [if_pos h0]
    have hzb : (q.toList == [48]) = true := by rw [toList_bs, hqb, h0, dec_zero]; rfl
    rw [e1]
    clear e1 h0 hft htl2 hfr hr hrb hrs hq hqb hqs hl1
    go_enter Tryz.func59, Tryz.ntmps59
    go_wp2_with fail
    refine (l02Trim_any _ _ HDS.out).mono ?_
    rintro e w1 ⟨rfl, hw1⟩
    subst hw1
    obtain ⟨w0, hw0, hz0, hb0, hc0, hf0⟩ := one_laid w false ⟨#[]⟩ 0
    rw [hw0, HTR.out, HQ.out]
    clear hw0
    go_wp2
    refine bodyPost_ret (v := .tuple #[.agg #[.bool false, .string ⟨#[]⟩, .int .i64 0], .int .i64 0]) (by simp [results, Tryz.results59, go_sem, *]) rfl ⟨rfl, ?_⟩
    exact ((hb0.setCell (Nat.le_refl _) _).setCell (Nat.le_refl _) _).setCell (Nat.le_refl _) _
  · have hzb : (q.toList == [48]) = false := by
      rw [toList_bs, hqb]
      refine beq_eq_false_iff_ne.2 fun e => h0 ?_
      rw [← val_dec v, e]; rfl
    obtain ⟨hsp, hFl⟩ := fT_split v
    have hFn := List.length_pos_iff.2 (fT_ne h0)
    have hE1 : fE v x = x + (fM v : Int) + (fK v : Int) := rfl
    have hfm : fM v = q.size - 20 := by unfold fM; rw [hqs]
    have HEND : Hid (formV n v x = if 99 < fE v x + ((fT v).length : Int) - 1 then numV false [] 0 1 else if fE v x + ((fT v).length : Int) - 1 < -99 then numV false [] 0 0 else numV n (fT v) (fE v x) 0) := Lib.hid (by unfold formV fH; rw [if_neg h0])
    have hqb2 : q.size ≤ 1073741826 := by omega
    have HALL := Lib.hid (show (bs q).all isDig = true by rw [hqb]; exact dec_all v)
    have HVQ := Lib.hid (show val (bs q) = v by rw [hqb, val_dec])
    obtain ⟨F, hF⟩ : ∃ F, fT v = F := ⟨_, rfl⟩
    obtain ⟨K, hK⟩ : ∃ K, fK v = K := ⟨_, rfl⟩
    obtain ⟨E, hE⟩ : ∃ E, fE v x = E := ⟨_, rfl⟩
    rw [hF] at hsp hFl hFn HEND hft htl2
    rw [hK] at hsp hE1 hft
    rw [hE] at hE1 HEND
    rw [← hrb] at hsp
    have HRB := Lib.hid hsp
    have HFL := Lib.hid hFl
    have hKb : K ≤ 21 := by omega
    clear hsp hFl hF hK hE hft hfr hr hrb hrs hq hqb hl1
    by_cases hbig : 20 < q.size
    · obtain ⟨m, hm⟩ : ∃ m : Nat, q.size = 20 + m := ⟨q.size - 20, by omega⟩
      have hmi : (q.size : Int) - 20 = (m : Int) := by omega
      have hfm' : fM v = m := by omega
      have HRO := Lib.hid (fun u : World => by
        have := l02Round_any q m u HALL.out (by omega) (by omega)
        rw [HVQ.out, ← hfm', show roundV v (fM v) = fR v from rfl, HR.out] at this
        rw [← hfm']
        exact this : ∀ u : World, Calls Tryz.prog 94 #[.string q, .int .i64 (m : Int)] u fun e w' => e = .returned (.string r) ∧ Below u.heap.size u w')
      have hE2 : E = x + (m : Int) + (K : Int) := by rw [hE1, hfm']
      have hqb3 : m ≤ 1073741826 := by omega
      clear hfm hfm' hm hE1 hqs h0
      go_enter Tryz.func59, Tryz.ntmps59
      go_wp2_with fail
      refine (l02Trim_any _ _ HDS.out).mono ?_
      rintro e w1 ⟨rfl, hw1⟩
      subst hw1
      obtain ⟨w0, hw0, hz0, hb0, hc0, hf0⟩ := one_laid w false ⟨#[]⟩ 0
      rw [hw0, HTR.out, HQ.out]
      clear hw0
      go_wp2_with fail
      refine (HRO.out _).mono ?_
      rintro e w1 ⟨rfl, hb1⟩
      obtain ⟨hz1, hc1, hf1⟩ := one_kept hb1 hz0 hc0 hf0
      have HBW := Lib.hid (hb0.trans (hb1.mono hb0.size))
      clear hz0 hc0 hf0 hb0 hb1
      go_wp2_with fail
      go_loop [1, 2] (fun d e => ∃ (u : ByteArray) (j : Nat) (X : Int), j ≤ K ∧ d = .string u ∧ bs u = F ++ zs j ∧ e = .int .i64 X ∧ X + (j : Int) = E) (fun d _ => match d with | .string u => u.size | _ => 0)
      case atStart => exact ⟨r, K, _, Nat.le_refl _, rfl, HRB.out, rfl, by omega⟩
      case round =>
        obtain ⟨u, j, X, hj, rfl, hu, rfl, hX⟩ := hrel
        have hus : u.size = F.length + j := by rw [← bs_length, hu, List.length_append, zs_len]
        have hu0 : 0 < u.size := by omega
        have hlt : u.size - 1 < u.size := Nat.sub_lt hu0 (by decide)
        have hu1 : u.size ≤ 60 := by omega
        have hlst := bs_last u hu0
        have hqt : ((u.size : Int) - 1).toNat = u.size - 1 := by omega
        have hq1 : 0 ≤ (u.size : Int) - 1 := by omega
        have hq2 : (u.size : Int) - 1 < (u.size : Int) := by omega
        have hq3 : (u.size : Int) - 1 ≤ (u.size : Int) := by omega
        have hEb1 : -3298534883328 ≤ E := by omega
        have hEb2 : E ≤ 3298534883328 := by omega
        by_cases hj0 : j = 0
        · subst hj0
          obtain rfl : X = E := by omega
          have huF : bs u = F := by rw [hu]; exact List.append_nil F
          have HUF := Lib.hid (show ofL F = u by rw [← huF, ofL_bs])
          have hcb : (((u[u.size - 1]'hlt).toNat : Int) == 48) = false := by
            refine beq_eq_false_iff_ne.2 fun h => HFL.out ?_
            rw [← huF, hlst, u8_48 h]
          have hFs : (F.length : Int) = (u.size : Int) := by omega
          have hT : u.size ≤ 20 := by omega
          rw [hFs] at HEND
          clear hu huF hus hlst hFs hE2 hX
          by_cases e1 : 99 < X + (u.size : Int) - 1
          · go_wp2
            refine bodyPost_ret (v := .tuple #[.agg #[.bool false, .string ⟨#[]⟩, .int .i64 0], .int .i64 1]) (by simp [results, Tryz.results59, go_sem, *]) rfl ?_
            exact ⟨by rw [HEND.out, if_pos (show 99 < X + (u.size : Int) - 1 by omega)]; rfl, ((HBW.out.setCell (Nat.le_refl _) _).setCell (Nat.le_refl _) _).setCell (Nat.le_refl _) _⟩
          · by_cases e2 : X + (u.size : Int) - 1 < -99
            · go_wp2
              refine bodyPost_ret (v := .tuple #[.agg #[.bool false, .string ⟨#[]⟩, .int .i64 0], .int .i64 0]) (by simp [results, Tryz.results59, go_sem, *]) rfl ?_
              exact ⟨by rw [HEND.out, if_neg (show ¬ 99 < X + (u.size : Int) - 1 by omega), if_pos (show X + (u.size : Int) - 1 < -99 by omega)]; rfl, ((HBW.out.setCell (Nat.le_refl _) _).setCell (Nat.le_refl _) _).setCell (Nat.le_refl _) _⟩
            · go_wp2
              refine bodyPost_ret (v := .tuple #[.agg #[.bool n, .string u, .int .i64 X], .int .i64 0]) (by simp [results, Tryz.results59, go_sem, *]) rfl ?_
              exact ⟨by rw [HEND.out, if_neg (show ¬ 99 < X + (u.size : Int) - 1 by omega), if_neg (show ¬ X + (u.size : Int) - 1 < -99 by omega)]; unfold numV; rw [HUF.out], ((HBW.out.setCell (Nat.le_refl _) _).setCell (Nat.le_refl _) _).setCell (Nat.le_refl _) _⟩
        · obtain ⟨i, rfl⟩ : ∃ i, j = i + 1 := ⟨j - 1, by omega⟩
          have hcb : (((u[u.size - 1]'hlt).toNat : Int) == 48) = true := by
            have e : some (u[u.size - 1]'hlt) = some (48 : UInt8) := by rw [← hlst, hu, zs_succ, ← List.append_assoc]; simp
            exact beq_iff_eq.2 (by rw [Option.some.inj e]; rfl)
          have HNEW := Lib.hid (show bs (u.extract 0 (u.size - 1)) = F ++ zs i by
            rw [bs_front, ← bs_length u, strip_take hu (by omega)]
            rfl)
          have hns : (u.extract 0 (u.size - 1)).size = u.size - 1 := by
            rw [← bs_length, HNEW.out, List.length_append, zs_len]; omega
          have hXb1 : -3298534883400 ≤ X := by omega
          have hXb2 : X ≤ 3298534883328 := by omega
          have hX1 : X + 1 + (i : Int) = E := by omega
          have hi1 : i ≤ K := by omega
          clear hu hlst hus hE2 hX hj hj0
          go_wp2
          refine ⟨⟨_, i, _, hi1, rfl, HNEW.out, rfl, hX1⟩, ?_⟩
          show (u.extract 0 (u.size - 1)).size < u.size
          rw [hns]; exact hlt
    · have hfR : fR v = v := (fM_small (v := v) (by omega)).2
      have hqr : q = r := by rw [← HQ.out, ← HR.out, hfR]
      have hfm0 : fM v = 0 := by omega
      have hE2 : E = x + (K : Int) := by rw [hE1, hfm0]; omega
      have hqb4 : (q.size : Int) ≤ 20 := by omega
      subst hqr
      clear hfm hfm0 hfR hE1 hqs h0
      go_enter Tryz.func59, Tryz.ntmps59
      go_wp2_with fail
      refine (l02Trim_any _ _ HDS.out).mono ?_
      rintro e w1 ⟨rfl, hw1⟩
      subst hw1
      obtain ⟨w0, hw0, hz0, hb0, hc0, hf0⟩ := one_laid w false ⟨#[]⟩ 0
      rw [hw0, HTR.out, HQ.out]
      clear hw0
      have HBW := Lib.hid hb0
      clear hb0
      go_wp2
      go_loop [1, 2] (fun d e => ∃ (u : ByteArray) (j : Nat) (X : Int), j ≤ K ∧ d = .string u ∧ bs u = F ++ zs j ∧ e = .int .i64 X ∧ X + (j : Int) = E) (fun d _ => match d with | .string u => u.size | _ => 0)
      case atStart => exact ⟨q, K, _, Nat.le_refl _, rfl, HRB.out, rfl, by omega⟩
      case round =>
        obtain ⟨u, j, X, hj, rfl, hu, rfl, hX⟩ := hrel
        have hus : u.size = F.length + j := by rw [← bs_length, hu, List.length_append, zs_len]
        have hu0 : 0 < u.size := by omega
        have hlt : u.size - 1 < u.size := Nat.sub_lt hu0 (by decide)
        have hu1 : u.size ≤ 60 := by omega
        have hlst := bs_last u hu0
        have hqt : ((u.size : Int) - 1).toNat = u.size - 1 := by omega
        have hq1 : 0 ≤ (u.size : Int) - 1 := by omega
        have hq2 : (u.size : Int) - 1 < (u.size : Int) := by omega
        have hq3 : (u.size : Int) - 1 ≤ (u.size : Int) := by omega
        have hEb1 : -3298534883328 ≤ E := by omega
        have hEb2 : E ≤ 3298534883328 := by omega
        by_cases hj0 : j = 0
        · subst hj0
          obtain rfl : X = E := by omega
          have huF : bs u = F := by rw [hu]; exact List.append_nil F
          have HUF := Lib.hid (show ofL F = u by rw [← huF, ofL_bs])
          have hcb : (((u[u.size - 1]'hlt).toNat : Int) == 48) = false := by
            refine beq_eq_false_iff_ne.2 fun h => HFL.out ?_
            rw [← huF, hlst, u8_48 h]
          have hFs : (F.length : Int) = (u.size : Int) := by omega
          have hT : u.size ≤ 20 := by omega
          rw [hFs] at HEND
          clear hu huF hus hlst hFs hE2 hX
          by_cases e1 : 99 < X + (u.size : Int) - 1
          · go_wp2
            refine bodyPost_ret (v := .tuple #[.agg #[.bool false, .string ⟨#[]⟩, .int .i64 0], .int .i64 1]) (by simp [results, Tryz.results59, go_sem, *]) rfl ?_
            exact ⟨by rw [HEND.out, if_pos (show 99 < X + (u.size : Int) - 1 by omega)]; rfl, ((HBW.out.setCell (Nat.le_refl _) _).setCell (Nat.le_refl _) _).setCell (Nat.le_refl _) _⟩
          · by_cases e2 : X + (u.size : Int) - 1 < -99
            · go_wp2
              refine bodyPost_ret (v := .tuple #[.agg #[.bool false, .string ⟨#[]⟩, .int .i64 0], .int .i64 0]) (by simp [results, Tryz.results59, go_sem, *]) rfl ?_
              exact ⟨by rw [HEND.out, if_neg (show ¬ 99 < X + (u.size : Int) - 1 by omega), if_pos (show X + (u.size : Int) - 1 < -99 by omega)]; rfl, ((HBW.out.setCell (Nat.le_refl _) _).setCell (Nat.le_refl _) _).setCell (Nat.le_refl _) _⟩
            · go_wp2
              refine bodyPost_ret (v := .tuple #[.agg #[.bool n, .string u, .int .i64 X], .int .i64 0]) (by simp [results, Tryz.results59, go_sem, *]) rfl ?_
              exact ⟨by rw [HEND.out, if_neg (show ¬ 99 < X + (u.size : Int) - 1 by omega), if_neg (show ¬ X + (u.size : Int) - 1 < -99 by omega)]; unfold numV; rw [HUF.out], ((HBW.out.setCell (Nat.le_refl _) _).setCell (Nat.le_refl _) _).setCell (Nat.le_refl _) _⟩
        · obtain ⟨i, rfl⟩ : ∃ i, j = i + 1 := ⟨j - 1, by omega⟩
          have hcb : (((u[u.size - 1]'hlt).toNat : Int) == 48) = true := by
            have e : some (u[u.size - 1]'hlt) = some (48 : UInt8) := by rw [← hlst, hu, zs_succ, ← List.append_assoc]; simp
            exact beq_iff_eq.2 (by rw [Option.some.inj e]; rfl)
          have HNEW := Lib.hid (show bs (u.extract 0 (u.size - 1)) = F ++ zs i by
            rw [bs_front, ← bs_length u, strip_take hu (by omega)]
            rfl)
          have hns : (u.extract 0 (u.size - 1)).size = u.size - 1 := by
            rw [← bs_length, HNEW.out, List.length_append, zs_len]; omega
          have hXb1 : -3298534883400 ≤ X := by omega
          have hXb2 : X ≤ 3298534883328 := by omega
          have hX1 : X + 1 + (i : Int) = E := by omega
          have hi1 : i ≤ K := by omega
          clear hu hlst hus hE2 hX hj hj0
          go_wp2
          refine ⟨⟨_, i, _, hi1, rfl, HNEW.out, rfl, hX1⟩, ?_⟩
          show (u.extract 0 (u.size - 1)).size < u.size
          rw [hns]; exact hlt

set_option maxRecDepth 10000 in
set_option maxHeartbeats 1000000 in
theorem l03Form_much (n : Bool) (s : ByteArray) (x : Int) (w : World) (hd : (bs s).all isDig = true) (hs : s.size ≤ 1073741824) (hx : -1099511627776 ≤ x) (hx2 : x ≤ 1099511627776) :
    Calls Tryz.prog 59 #[.bool n, .string s, .int .i64 x, .bool true] w fun e w' => e = .returned (formV n (10 * val (bs s) + 1) (x - 1)) ∧ Below w.heap.size w w' := by
  obtain ⟨d, hd0⟩ : ∃ d, s ++ (⟨#[49]⟩ : ByteArray) = d := ⟨_, rfl⟩
  have hdb : bs d = bs s ++ [49] := by rw [← hd0, bs_app]
  have hdd : (bs d).all isDig = true := by rw [hdb, List.all_append, hd]; first | rfl | done
  have hdsz : d.size = s.size + 1 := by rw [← bs_length, hdb, List.length_append, bs_length]; first | rfl | done
  have hdv : val (bs d) = 10 * val (bs s) + 1 := by rw [hdb, val_snoc]; rfl
  have HDS := Lib.hid (show d.size ≤ 1099511627776 by omega)
  rw [← hdv]
  have HD0 := Lib.hid hd0
  have htl := trimZ_len (bs d)
  have htr := trimZ_dec (bs d) hdd
  rw [htr, bs_length] at htl
  have HTR := Lib.hid htr
  obtain ⟨v, hv⟩ : ∃ v, val (bs d) = v := ⟨_, rfl⟩
  rw [hv] at htl HTR ⊢
  clear htr hv hd hdd
  obtain ⟨q, hq, hqb, hqs⟩ := dec_size v
  have HQ := Lib.hid hq
  have hl1 := dec_len v
  obtain ⟨r, hr, hrb, hrs⟩ := dec_size (fR v)
  have HR := Lib.hid hr
  have hft := fT_len v
  have htl2 := fT_len_le v
  have hfr : (dec (fR v)).length ≤ 21 := dec_len_le 21 _ (by omega) (by have := fR_le v; omega)
  by_cases h0 : v = 0
  · have e1 : formV n v (x - 1) = numV false [] 0 0 := by unfold formV; rw [if_pos h0]
    have hzb : (q.toList == [48]) = true := by rw [toList_bs, hqb, h0, dec_zero]; rfl
    rw [e1]
    clear e1 h0 hft htl2 hfr hr hrb hrs hq hqb hqs hl1
    go_enter Tryz.func59, Tryz.ntmps59
    go_wp2_with fail
    refine (l02Trim_any _ _ HDS.out).mono ?_
    rintro e w1 ⟨rfl, hw1⟩
    subst hw1
    obtain ⟨w0, hw0, hz0, hb0, hc0, hf0⟩ := one_laid w false ⟨#[]⟩ 0
    rw [hw0, HTR.out, HQ.out]
    clear hw0
    go_wp2
    refine bodyPost_ret (v := .tuple #[.agg #[.bool false, .string ⟨#[]⟩, .int .i64 0], .int .i64 0]) (by simp [results, Tryz.results59, go_sem, *]) rfl ⟨rfl, ?_⟩
    exact ((hb0.setCell (Nat.le_refl _) _).setCell (Nat.le_refl _) _).setCell (Nat.le_refl _) _
  · have hzb : (q.toList == [48]) = false := by
      rw [toList_bs, hqb]
      refine beq_eq_false_iff_ne.2 fun e => h0 ?_
      rw [← val_dec v, e]; rfl
    obtain ⟨hsp, hFl⟩ := fT_split v
    have hFn := List.length_pos_iff.2 (fT_ne h0)
    have hE1 : fE v (x - 1) = (x - 1) + (fM v : Int) + (fK v : Int) := rfl
    have hfm : fM v = q.size - 20 := by unfold fM; rw [hqs]
    have HEND : Hid (formV n v (x - 1) = if 99 < fE v (x - 1) + ((fT v).length : Int) - 1 then numV false [] 0 1 else if fE v (x - 1) + ((fT v).length : Int) - 1 < -99 then numV false [] 0 0 else numV n (fT v) (fE v (x - 1)) 0) := Lib.hid (by unfold formV fH; rw [if_neg h0])
    have hqb2 : q.size ≤ 1073741826 := by omega
    have HALL := Lib.hid (show (bs q).all isDig = true by rw [hqb]; exact dec_all v)
    have HVQ := Lib.hid (show val (bs q) = v by rw [hqb, val_dec])
    obtain ⟨F, hF⟩ : ∃ F, fT v = F := ⟨_, rfl⟩
    obtain ⟨K, hK⟩ : ∃ K, fK v = K := ⟨_, rfl⟩
    obtain ⟨E, hE⟩ : ∃ E, fE v (x - 1) = E := ⟨_, rfl⟩
    rw [hF] at hsp hFl hFn HEND hft htl2
    rw [hK] at hsp hE1 hft
    rw [hE] at hE1 HEND
    rw [← hrb] at hsp
    have HRB := Lib.hid hsp
    have HFL := Lib.hid hFl
    have hKb : K ≤ 21 := by omega
    clear hsp hFl hF hK hE hft hfr hr hrb hrs hq hqb hl1
    by_cases hbig : 20 < q.size
    · obtain ⟨m, hm⟩ : ∃ m : Nat, q.size = 20 + m := ⟨q.size - 20, by omega⟩
      have hmi : (q.size : Int) - 20 = (m : Int) := by omega
      have hfm' : fM v = m := by omega
      have HRO := Lib.hid (fun u : World => by
        have := l02Round_any q m u HALL.out (by omega) (by omega)
        rw [HVQ.out, ← hfm', show roundV v (fM v) = fR v from rfl, HR.out] at this
        rw [← hfm']
        exact this : ∀ u : World, Calls Tryz.prog 94 #[.string q, .int .i64 (m : Int)] u fun e w' => e = .returned (.string r) ∧ Below u.heap.size u w')
      have hE2 : E = (x - 1) + (m : Int) + (K : Int) := by rw [hE1, hfm']
      have hqb3 : m ≤ 1073741826 := by omega
      clear hfm hfm' hm hE1 hqs h0
      go_enter Tryz.func59, Tryz.ntmps59
      go_wp2_with fail
      refine (l02Trim_any _ _ HDS.out).mono ?_
      rintro e w1 ⟨rfl, hw1⟩
      subst hw1
      obtain ⟨w0, hw0, hz0, hb0, hc0, hf0⟩ := one_laid w false ⟨#[]⟩ 0
      rw [hw0, HTR.out, HQ.out]
      clear hw0
      go_wp2_with fail
      refine (HRO.out _).mono ?_
      rintro e w1 ⟨rfl, hb1⟩
      obtain ⟨hz1, hc1, hf1⟩ := one_kept hb1 hz0 hc0 hf0
      have HBW := Lib.hid (hb0.trans (hb1.mono hb0.size))
      clear hz0 hc0 hf0 hb0 hb1
      go_wp2_with fail
      go_loop [1, 2] (fun d e => ∃ (u : ByteArray) (j : Nat) (X : Int), j ≤ K ∧ d = .string u ∧ bs u = F ++ zs j ∧ e = .int .i64 X ∧ X + (j : Int) = E) (fun d _ => match d with | .string u => u.size | _ => 0)
      case atStart => exact ⟨r, K, _, Nat.le_refl _, rfl, HRB.out, rfl, by omega⟩
      case round =>
        obtain ⟨u, j, X, hj, rfl, hu, rfl, hX⟩ := hrel
        have hus : u.size = F.length + j := by rw [← bs_length, hu, List.length_append, zs_len]
        have hu0 : 0 < u.size := by omega
        have hlt : u.size - 1 < u.size := Nat.sub_lt hu0 (by decide)
        have hu1 : u.size ≤ 60 := by omega
        have hlst := bs_last u hu0
        have hqt : ((u.size : Int) - 1).toNat = u.size - 1 := by omega
        have hq1 : 0 ≤ (u.size : Int) - 1 := by omega
        have hq2 : (u.size : Int) - 1 < (u.size : Int) := by omega
        have hq3 : (u.size : Int) - 1 ≤ (u.size : Int) := by omega
        have hEb1 : -3298534883328 ≤ E := by omega
        have hEb2 : E ≤ 3298534883328 := by omega
        by_cases hj0 : j = 0
        · subst hj0
          obtain rfl : X = E := by omega
          have huF : bs u = F := by rw [hu]; exact List.append_nil F
          have HUF := Lib.hid (show ofL F = u by rw [← huF, ofL_bs])
          have hcb : (((u[u.size - 1]'hlt).toNat : Int) == 48) = false := by
            refine beq_eq_false_iff_ne.2 fun h => HFL.out ?_
            rw [← huF, hlst, u8_48 h]
          have hFs : (F.length : Int) = (u.size : Int) := by omega
          have hT : u.size ≤ 20 := by omega
          rw [hFs] at HEND
          clear hu huF hus hlst hFs hE2 hX
          by_cases e1 : 99 < X + (u.size : Int) - 1
          · go_wp2
            refine bodyPost_ret (v := .tuple #[.agg #[.bool false, .string ⟨#[]⟩, .int .i64 0], .int .i64 1]) (by simp [results, Tryz.results59, go_sem, *]) rfl ?_
            exact ⟨by rw [HEND.out, if_pos (show 99 < X + (u.size : Int) - 1 by omega)]; rfl, ((HBW.out.setCell (Nat.le_refl _) _).setCell (Nat.le_refl _) _).setCell (Nat.le_refl _) _⟩
          · by_cases e2 : X + (u.size : Int) - 1 < -99
            · go_wp2
              refine bodyPost_ret (v := .tuple #[.agg #[.bool false, .string ⟨#[]⟩, .int .i64 0], .int .i64 0]) (by simp [results, Tryz.results59, go_sem, *]) rfl ?_
              exact ⟨by rw [HEND.out, if_neg (show ¬ 99 < X + (u.size : Int) - 1 by omega), if_pos (show X + (u.size : Int) - 1 < -99 by omega)]; rfl, ((HBW.out.setCell (Nat.le_refl _) _).setCell (Nat.le_refl _) _).setCell (Nat.le_refl _) _⟩
            · go_wp2
              refine bodyPost_ret (v := .tuple #[.agg #[.bool n, .string u, .int .i64 X], .int .i64 0]) (by simp [results, Tryz.results59, go_sem, *]) rfl ?_
              exact ⟨by rw [HEND.out, if_neg (show ¬ 99 < X + (u.size : Int) - 1 by omega), if_neg (show ¬ X + (u.size : Int) - 1 < -99 by omega)]; unfold numV; rw [HUF.out], ((HBW.out.setCell (Nat.le_refl _) _).setCell (Nat.le_refl _) _).setCell (Nat.le_refl _) _⟩
        · obtain ⟨i, rfl⟩ : ∃ i, j = i + 1 := ⟨j - 1, by omega⟩
          have hcb : (((u[u.size - 1]'hlt).toNat : Int) == 48) = true := by
            have e : some (u[u.size - 1]'hlt) = some (48 : UInt8) := by rw [← hlst, hu, zs_succ, ← List.append_assoc]; simp
            exact beq_iff_eq.2 (by rw [Option.some.inj e]; rfl)
          have HNEW := Lib.hid (show bs (u.extract 0 (u.size - 1)) = F ++ zs i by
            rw [bs_front, ← bs_length u, strip_take hu (by omega)]
            rfl)
          have hns : (u.extract 0 (u.size - 1)).size = u.size - 1 := by
            rw [← bs_length, HNEW.out, List.length_append, zs_len]; omega
          have hXb1 : -3298534883400 ≤ X := by omega
          have hXb2 : X ≤ 3298534883328 := by omega
          have hX1 : X + 1 + (i : Int) = E := by omega
          have hi1 : i ≤ K := by omega
          clear hu hlst hus hE2 hX hj hj0
          go_wp2
          refine ⟨⟨_, i, _, hi1, rfl, HNEW.out, rfl, hX1⟩, ?_⟩
          show (u.extract 0 (u.size - 1)).size < u.size
          rw [hns]; exact hlt
    · have hfR : fR v = v := (fM_small (v := v) (by omega)).2
      have hqr : q = r := by rw [← HQ.out, ← HR.out, hfR]
      have hfm0 : fM v = 0 := by omega
      have hE2 : E = (x - 1) + (K : Int) := by rw [hE1, hfm0]; omega
      have hqb4 : (q.size : Int) ≤ 20 := by omega
      subst hqr
      clear hfm hfm0 hfR hE1 hqs h0
      go_enter Tryz.func59, Tryz.ntmps59
      go_wp2_with fail
      refine (l02Trim_any _ _ HDS.out).mono ?_
      rintro e w1 ⟨rfl, hw1⟩
      subst hw1
      obtain ⟨w0, hw0, hz0, hb0, hc0, hf0⟩ := one_laid w false ⟨#[]⟩ 0
      rw [hw0, HTR.out, HQ.out]
      clear hw0
      have HBW := Lib.hid hb0
      clear hb0
      go_wp2
      go_loop [1, 2] (fun d e => ∃ (u : ByteArray) (j : Nat) (X : Int), j ≤ K ∧ d = .string u ∧ bs u = F ++ zs j ∧ e = .int .i64 X ∧ X + (j : Int) = E) (fun d _ => match d with | .string u => u.size | _ => 0)
      case atStart => exact ⟨q, K, _, Nat.le_refl _, rfl, HRB.out, rfl, by omega⟩
      case round =>
        obtain ⟨u, j, X, hj, rfl, hu, rfl, hX⟩ := hrel
        have hus : u.size = F.length + j := by rw [← bs_length, hu, List.length_append, zs_len]
        have hu0 : 0 < u.size := by omega
        have hlt : u.size - 1 < u.size := Nat.sub_lt hu0 (by decide)
        have hu1 : u.size ≤ 60 := by omega
        have hlst := bs_last u hu0
        have hqt : ((u.size : Int) - 1).toNat = u.size - 1 := by omega
        have hq1 : 0 ≤ (u.size : Int) - 1 := by omega
        have hq2 : (u.size : Int) - 1 < (u.size : Int) := by omega
        have hq3 : (u.size : Int) - 1 ≤ (u.size : Int) := by omega
        have hEb1 : -3298534883328 ≤ E := by omega
        have hEb2 : E ≤ 3298534883328 := by omega
        by_cases hj0 : j = 0
        · subst hj0
          obtain rfl : X = E := by omega
          have huF : bs u = F := by rw [hu]; exact List.append_nil F
          have HUF := Lib.hid (show ofL F = u by rw [← huF, ofL_bs])
          have hcb : (((u[u.size - 1]'hlt).toNat : Int) == 48) = false := by
            refine beq_eq_false_iff_ne.2 fun h => HFL.out ?_
            rw [← huF, hlst, u8_48 h]
          have hFs : (F.length : Int) = (u.size : Int) := by omega
          have hT : u.size ≤ 20 := by omega
          rw [hFs] at HEND
          clear hu huF hus hlst hFs hE2 hX
          by_cases e1 : 99 < X + (u.size : Int) - 1
          · go_wp2
            refine bodyPost_ret (v := .tuple #[.agg #[.bool false, .string ⟨#[]⟩, .int .i64 0], .int .i64 1]) (by simp [results, Tryz.results59, go_sem, *]) rfl ?_
            exact ⟨by rw [HEND.out, if_pos (show 99 < X + (u.size : Int) - 1 by omega)]; rfl, ((HBW.out.setCell (Nat.le_refl _) _).setCell (Nat.le_refl _) _).setCell (Nat.le_refl _) _⟩
          · by_cases e2 : X + (u.size : Int) - 1 < -99
            · go_wp2
              refine bodyPost_ret (v := .tuple #[.agg #[.bool false, .string ⟨#[]⟩, .int .i64 0], .int .i64 0]) (by simp [results, Tryz.results59, go_sem, *]) rfl ?_
              exact ⟨by rw [HEND.out, if_neg (show ¬ 99 < X + (u.size : Int) - 1 by omega), if_pos (show X + (u.size : Int) - 1 < -99 by omega)]; rfl, ((HBW.out.setCell (Nat.le_refl _) _).setCell (Nat.le_refl _) _).setCell (Nat.le_refl _) _⟩
            · go_wp2
              refine bodyPost_ret (v := .tuple #[.agg #[.bool n, .string u, .int .i64 X], .int .i64 0]) (by simp [results, Tryz.results59, go_sem, *]) rfl ?_
              exact ⟨by rw [HEND.out, if_neg (show ¬ 99 < X + (u.size : Int) - 1 by omega), if_neg (show ¬ X + (u.size : Int) - 1 < -99 by omega)]; unfold numV; rw [HUF.out], ((HBW.out.setCell (Nat.le_refl _) _).setCell (Nat.le_refl _) _).setCell (Nat.le_refl _) _⟩
        · obtain ⟨i, rfl⟩ : ∃ i, j = i + 1 := ⟨j - 1, by omega⟩
          have hcb : (((u[u.size - 1]'hlt).toNat : Int) == 48) = true := by
            have e : some (u[u.size - 1]'hlt) = some (48 : UInt8) := by rw [← hlst, hu, zs_succ, ← List.append_assoc]; simp
            exact beq_iff_eq.2 (by rw [Option.some.inj e]; rfl)
          have HNEW := Lib.hid (show bs (u.extract 0 (u.size - 1)) = F ++ zs i by
            rw [bs_front, ← bs_length u, strip_take hu (by omega)]
            rfl)
          have hns : (u.extract 0 (u.size - 1)).size = u.size - 1 := by
            rw [← bs_length, HNEW.out, List.length_append, zs_len]; omega
          have hXb1 : -3298534883400 ≤ X := by omega
          have hXb2 : X ≤ 3298534883328 := by omega
          have hX1 : X + 1 + (i : Int) = E := by omega
          have hi1 : i ≤ K := by omega
          clear hu hlst hus hE2 hX hj hj0
          go_wp2
          refine ⟨⟨_, i, _, hi1, rfl, HNEW.out, rfl, hX1⟩, ?_⟩
          show (u.extract 0 (u.size - 1)).size < u.size
          rw [hns]; exact hlt
end Go.Proofs.YtjjpdoabagnmoaaGreatDoor

/-
  The contract of impl.normal: formV of the digits' value. Conditions: digits, at most 2 to the 30 of them, an exponent of at most 2 to the 40.
-/
import Derived.Test.YtjjpdoabagnmoaaDoorForm
import Derived.Test.YtjjpdoabagnmoaaDoorNatRound
namespace Go.Proofs.YtjjpdoabagnmoaaDoor
open Go.RowKit
set_option linter.unusedVariables false
set_option linter.unusedSimpArgs false

theorem dec_size (v : Nat) : ∃ q : ByteArray, ofL (dec v) = q ∧ bs q = dec v ∧ q.size = (dec v).length := ⟨_, rfl, rfl, size_ofL _⟩
theorem numV_eq {n m : Bool} {l k : List UInt8} {x y c d : Int} (h1 : n = m) (h2 : l = k) (h3 : x = y) (h4 : c = d) : numV n l x c = numV m k y d := by rw [h1, h2, h3, h4]

theorem one_laid (w : World) (n : Bool) (s : ByteArray) (x : Int) :
    ∃ w0, w.alloc (Obj.cells #[.bool n, .string s, .int .i64 x] 23) = w0 ∧ w.heap.size < w0.heap.size ∧ Below w.heap.size w w0 ∧
      (w0.cell? ⟨w.heap.size, 0, none⟩ = some (.bool n) ∧ w0.cell? ⟨w.heap.size, 1, none⟩ = some (.string s) ∧ w0.cell? ⟨w.heap.size, 2, none⟩ = some (.int .i64 x)) ∧ (w0.frozen? ⟨w.heap.size, 0, none⟩ = false ∧ w0.frozen? ⟨w.heap.size, 1, none⟩ = false ∧ w0.frozen? ⟨w.heap.size, 2, none⟩ = false) := by
  refine ⟨_, rfl, by simp, (Below.refl _ w).alloc (Nat.le_refl _) _, ?_⟩
  simp

theorem one_kept {w w1 : World} {p : Nat} {n : Bool} {s : ByteArray} {x : Int} (hb : Below w.heap.size w w1) (hp : p < w.heap.size)
    (h : w.cell? ⟨p, 0, none⟩ = some (.bool n) ∧ w.cell? ⟨p, 1, none⟩ = some (.string s) ∧ w.cell? ⟨p, 2, none⟩ = some (.int .i64 x))
    (h' : w.frozen? ⟨p, 0, none⟩ = false ∧ w.frozen? ⟨p, 1, none⟩ = false ∧ w.frozen? ⟨p, 2, none⟩ = false) :
    p < w1.heap.size ∧ (w1.cell? ⟨p, 0, none⟩ = some (.bool n) ∧ w1.cell? ⟨p, 1, none⟩ = some (.string s) ∧ w1.cell? ⟨p, 2, none⟩ = some (.int .i64 x)) ∧
      (w1.frozen? ⟨p, 0, none⟩ = false ∧ w1.frozen? ⟨p, 1, none⟩ = false ∧ w1.frozen? ⟨p, 2, none⟩ = false) := by
  obtain ⟨c, f⟩ := bcell hb
  rw [c p 0 hp, c p 1 hp, c p 2 hp, f p 0 hp, f p 1 hp, f p 2 hp]
  exact ⟨Nat.lt_of_lt_of_le hp hb.size, h, h'⟩

set_option maxRecDepth 10000 in
set_option maxHeartbeats 1000000 in
theorem normal_any (n : Bool) (s : ByteArray) (x : Int) (w : World) (hd : (bs s).all isDig = true) (hs : s.size ≤ 1073741824) (hx : -1099511627776 ≤ x) (hx2 : x ≤ 1099511627776) :
    Calls Tryd.prog 54 #[.bool n, .string s, .int .i64 x] w fun e w' => e = .returned (formV n (val (bs s)) x) ∧ Below w.heap.size w w' := by
  have htl := trimZ_len (bs s)
  have htr := trimZ_dec (bs s) hd
  rw [htr, bs_length] at htl
  have HTR := Lib.hid htr
  obtain ⟨v, hv⟩ : ∃ v, val (bs s) = v := ⟨_, rfl⟩
  rw [hv] at htl HTR ⊢
  clear htr hv hd
  obtain ⟨q, hq, hqb, hqs⟩ := dec_size v
  have HQ := Lib.hid hq
  have hl1 := dec_len v
  obtain ⟨r, hr, hrb, hrs⟩ := dec_size (fR v)
  have HR := Lib.hid hr
  have hft := fT_len v
  have htl2 := fT_len_le v
  have hts := size_ofL (fT v)
  obtain ⟨t, ht⟩ : ∃ t, ofL (fT v) = t := ⟨_, rfl⟩
  have HTM := Lib.hid (show (⟨(Lib.trimRightB r.data.toList 48).toArray⟩ : ByteArray) = t by rw [← hr, ← ht]; rfl)
  have HT := Lib.hid ht
  rw [ht] at hts
  have hfr : (dec (fR v)).length ≤ 21 := dec_len_le 21 _ (by omega) (by have := fR_le v; omega)
  by_cases h0 : v = 0
  · have e1 : formV n v x = numV false [] 0 0 := by unfold formV; rw [if_pos h0]
    have hsz : q.size = 1 := by rw [hqs, h0, dec_zero]; rfl
    have HTM0 := Lib.hid (show (⟨(Lib.trimRightB q.data.toList 48).toArray⟩ : ByteArray) = ⟨#[]⟩ by rw [← hq, h0, dec_zero]; rfl)
    have hcs : ∀ u : World, Calls Tryd.prog 91 #[.string q, .string ⟨#[48]⟩] u fun e w' => e = .returned (.string ⟨#[]⟩) ∧ w' = u := fun u => by
      have := Tryd.strings_TrimRight_one q 48 (by decide) u (by omega)
      rw [HTM0.out] at this
      exact this
    have HCS := Lib.hid hcs
    rw [e1]
    clear e1 h0 hcs hft htl2 hts ht hfr hr hrb hrs hq hqb hqs hl1
    go_enter Tryd.func54, Tryd.ntmps54
    go_wp2_with fail
    refine (trimNat_any _ _).mono ?_
    rintro e w1 ⟨rfl, hw1⟩
    subst hw1
    obtain ⟨w0, hw0, hz0, hb0, hc0, hf0⟩ := one_laid w false ⟨#[]⟩ 0
    rw [hw0, HTR.out, HQ.out]
    clear hw0
    have hqs : (q.size : Int) = 1 := by omega
    go_wp2_with fail
    refine (HCS.out _).mono ?_
    rintro e w1 ⟨rfl, hw1⟩
    obtain rfl : w0 = w1 := hw1.symm
    clear hw1
    go_wp2
    refine bodyPost_ret (v := .tuple #[.agg #[.bool false, .string ⟨#[]⟩, .int .i64 0], .int .i64 0]) (by simp [results, Tryd.results54, go_sem, *]) rfl ⟨rfl, ?_⟩
    exact ((hb0.setCell (Nat.le_refl _) _).setCell (Nat.le_refl _) _).setCell (Nat.le_refl _) _
  · have hrT : ∀ u : World, Calls Tryd.prog 91 #[.string r, .string ⟨#[48]⟩] u fun e w' => e = .returned (.string t) ∧ w' = u := fun u => by
      have := Tryd.strings_TrimRight_one r 48 (by decide) u (by omega)
      rw [HTM.out] at this
      exact this
    have HCS := Lib.hid hrT
    have hne : 0 < t.size := by
      rw [hts]; exact List.length_pos_iff.2 (fT_ne h0)
    have hemp := isEmpty_no hne
    have hfe : fE v x = x + (fM v : Int) + (r.size : Int) - (t.size : Int) := by unfold fE fK; omega
    have hfm : fM v = q.size - 20 := by unfold fM; rw [hqs]
    have hfh : fH v x = fE v x + (t.size : Int) - 1 := by unfold fH; rw [hts]
    have hrt : t.size ≤ r.size := by omega
    have hr21 : r.size ≤ 21 := by omega
    obtain ⟨E, hE⟩ : ∃ E, fE v x = E := ⟨_, rfl⟩
    rw [hE] at hfe hfh
    have HEND : Hid (formV n v x = if 99 < E + (t.size : Int) - 1 then numV false [] 0 1 else if E + (t.size : Int) - 1 < -99 then numV false [] 0 0 else numV n (fT v) E 0) := Lib.hid (by unfold formV; rw [if_neg h0, hfh, hE])
    have hqb2 : q.size ≤ 1073741825 := by omega
    have HCAN := Lib.hid (show Canon (bs q) by rw [hqb]; exact dec_canon v)
    have HVAL := Lib.hid (show val (bs q) = v by rw [hqb, val_dec])
    clear hrT h0 hft htl2 hts ht hfr hr hrb hrs hq hqb hqs hl1 hfh hE
    by_cases hbig : 20 < q.size
    · obtain ⟨m, hm⟩ : ∃ m : Nat, q.size = 20 + m := ⟨q.size - 20, by omega⟩
      have hmi : (q.size : Int) - 20 = (m : Int) := by omega
      have hfm' : fM v = m := by omega
      have HRO := Lib.hid (fun u : World => by
        have := natRound_any q m u HCAN.out (by omega) (by omega)
        rw [HVAL.out, ← hfm', show roundV v (fM v) = fR v from rfl, HR.out] at this
        rw [← hfm']
        exact this : ∀ u : World, Calls Tryd.prog 90 #[.string q, .int .i64 (m : Int)] u fun e w' => e = .returned (.string r) ∧ Below u.heap.size u w')
      rw [hfm'] at hfe
      have hqb3 : m ≤ 1073741825 := by omega
      clear hfm hfm' hm
      go_enter Tryd.func54, Tryd.ntmps54
      go_wp2_with fail
      refine (trimNat_any _ _).mono ?_
      rintro e w1 ⟨rfl, hw1⟩
      subst hw1
      obtain ⟨w0, hw0, hz0, hb0, hc0, hf0⟩ := one_laid w false ⟨#[]⟩ 0
      rw [hw0, HTR.out, HQ.out]
      clear hw0
      go_wp2_with fail
      refine (HRO.out _).mono ?_
      rintro e w1 ⟨rfl, hb1⟩
      have HB1 := Lib.hid hb1
      clear hb1
      go_wp2_with fail
      refine (HCS.out _).mono ?_
      rintro e w2 ⟨rfl, hw2⟩
      obtain rfl : w1 = w2 := hw2.symm
      clear hw2
      obtain ⟨hz1, hc1, hf1⟩ := one_kept HB1.out hz0 hc0 hf0
      have HBW := Lib.hid (hb0.trans (HB1.out.mono hb0.size))
      clear hz0 hc0 hf0 hb0
      have hE1 : x + (m : Int) + ((r.size : Int) - (t.size : Int)) = E := by omega
      have hEb : -3298534883328 ≤ E ∧ E ≤ 3298534883328 := by omega
      obtain ⟨hEb1, hEb2⟩ := hEb
      have hts20 : t.size ≤ 21 := by omega
      clear hfe
      by_cases e1 : 99 < E + (t.size : Int) - 1
      · go_wp2
        refine bodyPost_ret (v := .tuple #[.agg #[.bool false, .string ⟨#[]⟩, .int .i64 0], .int .i64 1]) (by simp [results, Tryd.results54, go_sem, *]) rfl ?_
        exact ⟨by rw [HEND.out, if_pos (show 99 < E + (t.size : Int) - 1 by omega)]; rfl, ((HBW.out.setCell (Nat.le_refl _) _).setCell (Nat.le_refl _) _).setCell (Nat.le_refl _) _⟩
      · by_cases e2 : E + (t.size : Int) - 1 < -99
        · go_wp2
          refine bodyPost_ret (v := .tuple #[.agg #[.bool false, .string ⟨#[]⟩, .int .i64 0], .int .i64 0]) (by simp [results, Tryd.results54, go_sem, *]) rfl ?_
          exact ⟨by rw [HEND.out, if_neg (show ¬ 99 < E + (t.size : Int) - 1 by omega), if_pos (show E + (t.size : Int) - 1 < -99 by omega)]; rfl, ((HBW.out.setCell (Nat.le_refl _) _).setCell (Nat.le_refl _) _).setCell (Nat.le_refl _) _⟩
        · go_wp2
          refine bodyPost_ret (v := .tuple #[.agg #[.bool n, .string t, .int .i64 E], .int .i64 0]) (by simp [results, Tryd.results54, go_sem, *]) rfl ?_
          exact ⟨by rw [HEND.out, if_neg (show ¬ 99 < E + (t.size : Int) - 1 by omega), if_neg (show ¬ E + (t.size : Int) - 1 < -99 by omega)]; unfold numV; rw [HT.out], ((HBW.out.setCell (Nat.le_refl _) _).setCell (Nat.le_refl _) _).setCell (Nat.le_refl _) _⟩
    · have hfR : fR v = v := by rw [← HVAL.out]; exact (fM_small (v := val (bs q)) (by rw [HVAL.out, show (dec v).length = q.size by rw [← HQ.out, size_ofL]]; omega)).2
      have hqr : q = r := by rw [← HQ.out, ← HR.out, hfR]
      have hfm0 : fM v = 0 := by omega
      have hqb4 : q.size ≤ 20 := by omega
      rw [hfm0] at hfe
      subst hqr
      clear hfm hfm0 hfR
      go_enter Tryd.func54, Tryd.ntmps54
      go_wp2_with fail
      refine (trimNat_any _ _).mono ?_
      rintro e w1 ⟨rfl, hw1⟩
      subst hw1
      obtain ⟨w0, hw0, hz0, hb0, hc0, hf0⟩ := one_laid w false ⟨#[]⟩ 0
      rw [hw0, HTR.out, HQ.out]
      clear hw0
      go_wp2_with fail
      refine (HCS.out _).mono ?_
      rintro e w2 ⟨rfl, hw2⟩
      obtain rfl : w0 = w2 := hw2.symm
      clear hw2
      have HBW := Lib.hid hb0
      clear hb0
      have hE1 : x + ((q.size : Int) - (t.size : Int)) = E := by omega
      have hEb : -3298534883328 ≤ E ∧ E ≤ 3298534883328 := by omega
      obtain ⟨hEb1, hEb2⟩ := hEb
      have hts20 : t.size ≤ 21 := by omega
      clear hfe
      by_cases e1 : 99 < E + (t.size : Int) - 1
      · go_wp2
        refine bodyPost_ret (v := .tuple #[.agg #[.bool false, .string ⟨#[]⟩, .int .i64 0], .int .i64 1]) (by simp [results, Tryd.results54, go_sem, *]) rfl ?_
        exact ⟨by rw [HEND.out, if_pos (show 99 < E + (t.size : Int) - 1 by omega)]; rfl, ((HBW.out.setCell (Nat.le_refl _) _).setCell (Nat.le_refl _) _).setCell (Nat.le_refl _) _⟩
      · by_cases e2 : E + (t.size : Int) - 1 < -99
        · go_wp2
          refine bodyPost_ret (v := .tuple #[.agg #[.bool false, .string ⟨#[]⟩, .int .i64 0], .int .i64 0]) (by simp [results, Tryd.results54, go_sem, *]) rfl ?_
          exact ⟨by rw [HEND.out, if_neg (show ¬ 99 < E + (t.size : Int) - 1 by omega), if_pos (show E + (t.size : Int) - 1 < -99 by omega)]; rfl, ((HBW.out.setCell (Nat.le_refl _) _).setCell (Nat.le_refl _) _).setCell (Nat.le_refl _) _⟩
        · go_wp2
          refine bodyPost_ret (v := .tuple #[.agg #[.bool n, .string t, .int .i64 E], .int .i64 0]) (by simp [results, Tryd.results54, go_sem, *]) rfl ?_
          exact ⟨by rw [HEND.out, if_neg (show ¬ 99 < E + (t.size : Int) - 1 by omega), if_neg (show ¬ E + (t.size : Int) - 1 < -99 by omega)]; unfold numV; rw [HT.out], ((HBW.out.setCell (Nat.le_refl _) _).setCell (Nat.le_refl _) _).setCell (Nat.le_refl _) _⟩
end Go.Proofs.YtjjpdoabagnmoaaDoor

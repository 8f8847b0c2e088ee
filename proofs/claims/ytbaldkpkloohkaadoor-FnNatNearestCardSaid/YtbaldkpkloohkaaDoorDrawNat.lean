/-
  The contract of drawing a natural: a text of at most 1000 bytes. Conditions: the cursor stands at a block of its own, the code below it.
-/
import Derived.Test.YtbaldkpkloohkaaDoorDraws
import Derived.Test.YtbaldkpkloohkaaDoorZeros
import Derived.Test.YtbaldkpkloohkaaDoorNat1
namespace Go.Proofs.YtbaldkpkloohkaaDoor
open Go.RowKit
set_option linter.unusedVariables false
set_option linter.unusedSimpArgs false

set_option maxHeartbeats 1000000 in
theorem nat_any (p len cap at' seed n : Nat) (a : Option Addr) (w : World) (h : Cur w p a len cap at' seed) (hp : p < w.heap.size) (hat : at' ≤ 100000000) (hn : n ≤ 20) :
    Calls Tryd.prog 48 #[.pointer (some ⟨p, 0, none⟩), .int .i64 (n : Int)] w fun e w' => ∃ (t : ByteArray) (at2 seed2 : Nat), e = .returned (.string t) ∧ t.size ≤ 1000 ∧ at2 ≤ at' + 100 ∧ Cur w' p a len cap at2 seed2 ∧ Below p w w' ∧ p < w'.heap.size := by
  have HC := Lib.hid h
  clear h
  go_enter Tryd.func48, Tryd.ntmps48
  go_wp2_with fail
  refine (size_any p len cap at' seed n a _ HC.out (by omega) (by omega)).mono ?_
  rintro e w1 ⟨x, at2, seed2, rfl, hx, hat2, hc2, ho2⟩
  have H := Lib.hid (And.intro hc2 ho2)
  have hp1 : p < w1.heap.size := by rw [ho2.size]; exact hp
  have HB1 := Lib.hid (ho2.below (Nat.le_refl _))
  clear hc2 ho2
  go_wp2
  go_loopw [5, 6] (fun v i wr => ∃ (t : ByteArray) (k at3 seed3 : Nat), v = .string t ∧ i = .int .i64 (k : Int) ∧ t.size + 2 * k ≤ 42 ∧ at3 + k ≤ at' + 30 ∧ Cur wr p a len cap at3 seed3 ∧ Below p w wr ∧ p < wr.heap.size) (fun _ i _ => (intOf i).toNat)
  case atStart =>
    exact ⟨⟨#[]⟩, x + 1, at2, seed2, rfl, by congr 1; omega, by show 0 + 2 * (x + 1) ≤ 42; omega, by omega, H.out.1, HB1.out, hp1⟩
  case round =>
    obtain ⟨t, k, at3, seed3, rfl, rfl, ht, hat3, hc3, hb3, hp3⟩ := hrel
    have H3 := Lib.hid (And.intro hc3 hb3)
    clear hc3 hb3
    by_cases hk : 0 < k
    · have hk' : (0 : Int) < (k : Int) := by omega
      have hal := Lib.hid ((Below.refl p wr).alloc (Nat.le_of_lt hp3) (.cells #[.string ⟨#[48]⟩, .string ⟨#[49]⟩, .string ⟨#[53]⟩, .string ⟨#[57]⟩, .string ⟨#[52]⟩, .string ⟨#[55]⟩, .string ⟨#[48, 48]⟩, .string ⟨#[57, 57]⟩, .string ⟨#[53, 48]⟩, .string ⟨#[50]⟩] 9))
      go_wp2_with fail
      refine (pick_any p len cap at3 seed3 10 a _ (H3.out.1.below ((Below.refl wr.heap.size wr).alloc (Nat.le_refl _) _) hp3) (by omega) (by omega)).mono ?_
      rintro e w2 ⟨y, at4, seed4, rfl, hy, hat4, hc4, ho4⟩
      have hy8 : y < 10 := by omega
      obtain ⟨v, hv, hvs⟩ : ∃ v : ByteArray, w2.cell? ⟨wr.heap.size, y, none⟩ = some (.string v) ∧ v.size ≤ 2 := by
        rw [ho4.cell (by omega), new_cell]
        rcases (by omega : y = 0 ∨ y = 1 ∨ y = 2 ∨ y = 3 ∨ y = 4 ∨ y = 5 ∨ y = 6 ∨ y = 7 ∨ y = 8 ∨ y = 9) with rfl | rfl | rfl | rfl | rfl | rfl | rfl | rfl | rfl | rfl
        all_goals exact ⟨_, rfl, by decide⟩
      have hsz : w2.heap.size = wr.heap.size + 1 := by rw [ho4.size]; simp
      have H4 := Lib.hid (And.intro hc4 ho4)
      have hyb : (y : Int) < 10 := by omega
      have hno : ¬ (9223372036854775807 < t.size + v.size) := by omega
      clear hc4 ho4
      go_wp2
      have hts : (t ++ v).size = t.size + v.size := ByteArray.size_append
      refine ⟨⟨t ++ v, k - 1, at4, seed4, rfl, by congr 1; omega, by rw [hts]; omega, by omega, H4.out.1, H3.out.2.trans (hal.out.trans (H4.out.2.below (Nat.le_refl _))), by omega⟩, by simp [intOf]; omega⟩
    · have hk' : ¬ ((0 : Int) < (k : Int)) := by omega
      have hl := trimZ_len (bs t)
      rw [bs_length] at hl
      go_wp2_with fail
      refine (l02Trim_any _ _ (by omega)).mono ?_
      rintro e w2 ⟨rfl, hw2⟩
      obtain rfl : wr = w2 := hw2.symm
      have hs2 := size_ofL (trimZ (bs t))
      obtain ⟨u, hu⟩ : ∃ u, ofL (trimZ (bs t)) = u := ⟨_, rfl⟩
      rw [hu] at hs2 ⊢
      have hus : u.size ≤ 43 := by omega
      clear hu hs2 hl hw2
      go_wp2_with fail
      refine (pick_any p len cap at3 seed3 16 a _ H3.out.1 (by omega) (by omega)).mono ?_
      rintro e w3 ⟨y, at4, seed4, rfl, hy, hat4, hc4, ho4⟩
      have hp4 : p < w3.heap.size := by rw [ho4.size]; exact hp3
      have H4 := Lib.hid (And.intro hc4 (H3.out.2.trans (ho4.below (Nat.le_refl _))))
      clear hc4 ho4
      rcases (by omega : y = 0 ∨ y = 1 ∨ y = 2 ∨ 3 ≤ y) with rfl | rfl | rfl | hy3
      · have hal := Lib.hid ((Below.refl p w3).alloc (Nat.le_of_lt hp4) (.cells #[.string ⟨#[]⟩, .string ⟨#[48, 48]⟩, .string ⟨#[48, 49]⟩, .string ⟨#[45, 49]⟩, .string ⟨#[49, 97]⟩, .string ⟨#[49, 46, 48]⟩, .string ⟨#[32, 49]⟩, .string ⟨#[43, 50]⟩] 9))
        go_wp2_with fail
        refine (pick_any p len cap at4 seed4 8 a _ (H4.out.1.below ((Below.refl w3.heap.size w3).alloc (Nat.le_refl _) _) hp4) (by omega) (by omega)).mono ?_
        rintro e w5 ⟨z, at5, seed5, rfl, hz, hat5, hc5, ho5⟩
        have hz8 : z < 8 := by omega
        obtain ⟨v, hv, hvs⟩ : ∃ v : ByteArray, w5.cell? ⟨w3.heap.size, z, none⟩ = some (.string v) ∧ v.size ≤ 3 := by
          rw [ho5.cell (by omega), new_cell]
          rcases (by omega : z = 0 ∨ z = 1 ∨ z = 2 ∨ z = 3 ∨ z = 4 ∨ z = 5 ∨ z = 6 ∨ z = 7) with rfl | rfl | rfl | rfl | rfl | rfl | rfl | rfl
          all_goals exact ⟨_, rfl, by decide⟩
        have hsz : w5.heap.size = w3.heap.size + 1 := by rw [ho5.size]; simp
        have H5 := Lib.hid (And.intro hc5 ho5)
        have hzb : (z : Int) < 8 := by omega
        clear hc5 ho5
        go_wp2
        go_ret
        exact ⟨v, at5, seed5, rfl, by omega, by omega, H5.out.1, H4.out.2.trans (hal.out.trans (H5.out.2.below (Nat.le_refl _))), by omega⟩
      · go_wp2_with fail
        refine (pick_any p len cap at4 seed4 2 a _ H4.out.1 (by omega) (by omega)).mono ?_
        rintro e w5 ⟨z, at5, seed5, rfl, hz, hat5, hc5, ho5⟩
        have hp5 : p < w5.heap.size := by rw [ho5.size]; exact hp4
        have H5 := Lib.hid (And.intro hc5 (H4.out.2.trans (ho5.below (Nat.le_refl _))))
        obtain ⟨q, hq⟩ : ∃ q, 599 + z = q := ⟨_, rfl⟩
        have hq9 : q ≤ 900 := by omega
        have hzz : (599 : Int) + (z : Int) = (q : Int) := by omega
        have hz2 := size_ofL (zs q)
        rw [zs_len] at hz2
        clear hc5 ho5 hq
        go_wp2_with fail
        refine (l02Zeros_any q _ (by omega)).mono ?_
        rintro e w6 ⟨rfl, hb6⟩
        have hp6 : p < w6.heap.size := Nat.lt_of_lt_of_le hp5 hb6.size
        have H6 := Lib.hid (And.intro (H5.out.1.below hb6 hp5) (H5.out.2.trans (hb6.mono (Nat.le_of_lt hp5))))
        have hno : ¬ (9223372036854775807 < 1 + q) := by omega
        clear hb6
        go_wp2
        go_ret
        refine ⟨_, at5, seed5, rfl, ?_, by omega, H6.out.1, H6.out.2, hp6⟩
        rw [ByteArray.size_append, hz2]; show 1 + q ≤ 1000; omega
      · go_wp2
        go_ret
        exact ⟨⟨#[48]⟩, at4, seed4, rfl, by decide, by omega, H4.out.1, H4.out.2, hp4⟩
      · have e0 : ((y : Int) == 0) = false := beq_eq_false_iff_ne.2 (by omega)
        have e1 : ((y : Int) == 1) = false := beq_eq_false_iff_ne.2 (by omega)
        have e2 : ((y : Int) == 2) = false := beq_eq_false_iff_ne.2 (by omega)
        go_wp2
        go_ret
        exact ⟨u, at4, seed4, rfl, by omega, by omega, H4.out.1, H4.out.2, hp4⟩
end Go.Proofs.YtbaldkpkloohkaaDoor

/-
  The contracts of the draws of one number and of two: parts of whatever values; nothing that was there is written. Condition: a code of at most 2 to the 20 bytes.
-/
import Derived.Test.YtjjpdoabagnmoaaDoorDrawDec
import Derived.Deep.RegionHeld3
namespace Go.Proofs.YtjjpdoabagnmoaaDoor
open Go.RowKit
set_option linter.unusedVariables false
set_option linter.unusedSimpArgs false

theorem wf_of {x : Int} (h : -9223372036854775808 ≤ x ∧ x ≤ 9223372036854775807) : (Lit.int .i64 x).wf = true := by
  simpa [Lit.wf, IntKind.min, IntKind.max, IntKind.signed, IntKind.bits] using h
/-- what a draw of one number leaves -/
def OneDec (w : World) (e : Ending) (w' : World) : Prop := ∃ (n : Bool) (s : ByteArray) (x : Int), e = .returned (.agg #[.bool n, .string s, .int .i64 x]) ∧ s.size ≤ 1000 ∧ (-9223372036854775808 ≤ x ∧ x ≤ 9223372036854775807) ∧ Below w.heap.size w w'
/-- what a draw of two numbers leaves -/
def TwoDecs (w : World) (e : Ending) (w' : World) : Prop := ∃ (n : Bool) (s : ByteArray) (x : Int) (m : Bool) (t : ByteArray) (y : Int), e = .returned (.tuple #[.agg #[.bool n, .string s, .int .i64 x], .agg #[.bool m, .string t, .int .i64 y]]) ∧ (s.size ≤ 1000 ∧ t.size ≤ 1000) ∧ ((-9223372036854775808 ≤ x ∧ x ≤ 9223372036854775807) ∧ (-9223372036854775808 ≤ y ∧ y ≤ 9223372036854775807)) ∧ Below w.heap.size w w'
theorem IsRow.below {k : IntKind} {w w' : World} {a : Option Addr} {len cap : Nat} {zs : List Int} (h : IsRow k w a len cap zs) (hb : Below w.heap.size w w') : IsRow k w' a len cap zs := by
  rcases h with h | ⟨x, ha, h1, h2, h3, hc, hw⟩
  · exact .inl h
  · refine .inr ⟨x, ha, h1, h2, h3, fun i hi => ?_, hw⟩
    have e := hc i hi
    rw [hb.cell (p := x.add i) (Lib.lt_of_cell e)]
    exact e
set_option maxRecDepth 10000 in
set_option maxHeartbeats 2000000 in
theorem drawDecAdd_any (a : Option Addr) (len cap : Nat) (z : List Int) (w : World) (hr : IsRow .u8 w a len cap z) (hlen : len ≤ 1048576) :
    Calls Tryd.prog 13 #[.slice a len cap] w (TwoDecs w) := by
  have HR := Lib.hid hr
  clear hr
  go_enter Tryd.func13, Tryd.ntmps13
  go_wp2_with fail
  obtain ⟨v0, hw0, hz0, hv0, hc0, hf0⟩ := one_laid w false ⟨#[]⟩ 0
  rw [hw0]
  have hs0 : v0.heap.size = w.heap.size + 1 := by rw [← hw0]; simp
  obtain ⟨w0, hw1, hz1, hv1, hc1, hf1⟩ := one_laid v0 false ⟨#[]⟩ 0
  rw [hw1]
  have HB0 := Lib.hid (hv0.trans (hv1.mono hv0.size))
  have HS0 := Lib.hid hs0
  obtain ⟨k0, k1, k2⟩ := one_kept hv1 hz0 hc0 hf0
  rw [hs0] at hz1 hc1 hf1
  have HG := Lib.hid (And.intro (And.intro k0 (And.intro k1 k2)) (And.intro hz1 (And.intro hc1 hf1)))
  clear hw0 hw1 hz0 hv0 hc0 hf0 hv1 hz1 hc1 hf1 k0 k1 k2 hs0
  refine (open_any a len cap z _ (HR.out.below HB0.out) hlen).mono ?_
  rintro e w1 ⟨p, seed, rfl, hlo, hp, hc, hb⟩
  have hz0 : w.heap.size + 1 < w0.heap.size := HG.out.2.1
  have hlow : w.heap.size + 1 < p := Nat.lt_of_lt_of_le hz0 hlo
  have hn0 : w.heap.size ≠ p := by omega
  have hn1 : w.heap.size + 1 ≠ p := by omega
  have H1 := Lib.hid (And.intro hc (And.intro (HB0.out.trans (hb.mono HB0.out.size)) (And.intro
    (show Lay p w.heap.size false ⟨#[]⟩ 0 w1 w1 by obtain ⟨a1, a2, a3⟩ := one_kept hb HG.out.1.1 HG.out.1.2.1 HG.out.1.2.2; exact ⟨.refl _ _, a1, a2, a3⟩)
    (show Lay p (w.heap.size + 1) false ⟨#[]⟩ 0 w1 w1 by obtain ⟨a1, a2, a3⟩ := one_kept hb HG.out.2.1 HG.out.2.2.1 HG.out.2.2.2; exact ⟨.refl _ _, a1, a2, a3⟩))))
  clear hc hb
  go_wp2_with fail
  refine (dec_any p len cap 0 seed a _ H1.out.1 hp (by omega)).mono ?_
  rintro e w2 ⟨n, s, x, at2, seed2, rfl, hs, hx, hat2, hc2, hm2⟩
  have hp2 : p < w2.heap.size := Nat.lt_of_lt_of_le hp hm2.size
  have H2 := Lib.hid (And.intro hc2 (And.intro (H1.out.2.1.trans (hm2.below (B := w.heap.size) (Nat.le_of_lt (Nat.lt_trans (Nat.lt_succ_self _) hlow)) (Nat.le_of_lt (Nat.lt_trans (Nat.lt_trans (Nat.lt_succ_self _) hlow) hp)))) (And.intro (H1.out.2.2.1.mostly hm2 hn0) (H1.out.2.2.2.mostly hm2 hn1))))
  clear hc2 hm2
  go_upto_region 3 with fail
  obtain ⟨w3, hw3, hz3, hv3, hc3, hf3⟩ := one_laid w2 n s x
  rw [hw3]
  have hp3 : p < w3.heap.size := Nat.lt_of_lt_of_le hp2 hv3.size
  have H3 := Lib.hid (And.intro (H2.out.1.below hv3 hp2) (And.intro (H2.out.2.1.trans (hv3.mono (by omega))) (And.intro (H2.out.2.2.1.mostly (.of_below hv3) hn0) (And.intro (H2.out.2.2.2.mostly (.of_below hv3) hn1) (show Lay p w2.heap.size n s x w3 w3 from ⟨.refl _ _, hz3, hc3, hf3⟩)))))
  have hg2 : w.heap.size + 1 < w2.heap.size := H2.out.2.2.2.hz
  obtain ⟨e1, e2, e3⟩ := hc3
  clear hw3 hv3 hf3
  have hne1 : ¬ (w.heap.size = w.heap.size + 1) := by omega
  have hne2 : ¬ (w.heap.size + 1 = w.heap.size) := by omega
  have hne3 : ¬ (w2.heap.size = w.heap.size) := by omega
  have hne4 : ¬ (w2.heap.size = w.heap.size + 1) := by omega
  have hne5 : ¬ (w.heap.size = w2.heap.size) := by omega
  have hne6 : ¬ (w.heap.size + 1 = w2.heap.size) := by omega
  go_region_with
    (first | (go_at_call 34; refine (dec_any p len cap at2 seed2 a _ (H3.out.1.below (Below.drew (Below.refl _ _)) hp3) hp3 (by omega)).mono ?_; rintro e w4 ⟨m, t, y, at4, seed4, rfl, ht, hy, hat4, hc4, hm4⟩; have H4 := Lib.hid (And.intro (H3.out.2.1.trans (Mostly.below (B := w.heap.size) (w := w3) ⟨hm4.os, hm4.tape, hm4.output, hm4.size, hm4.block⟩ (by omega) (by omega))) (And.intro (H3.out.2.2.1.mostly (w' := w4) ⟨hm4.os, hm4.tape, hm4.output, hm4.size, hm4.block⟩ hn0) (And.intro (H3.out.2.2.2.1.mostly (w' := w4) ⟨hm4.os, hm4.tape, hm4.output, hm4.size, hm4.block⟩ hn1) (H3.out.2.2.2.2.mostly (w' := w4) ⟨hm4.os, hm4.tape, hm4.output, hm4.size, hm4.block⟩ (Nat.ne_of_gt hp2))))); obtain ⟨d1, d2, d3⟩ := H4.out.2.2.2.hc; obtain ⟨r1, r2, r3⟩ := H4.out.2.1.hc; obtain ⟨f1, f2, f3⟩ := H4.out.2.1.hf; obtain ⟨q1, q2, q3⟩ := H4.out.2.2.1.hc; obtain ⟨g1, g2, g3⟩ := H4.out.2.2.1.hf; clear hc4 hm4) | (go_at_call 34; refine (dec_any p len cap at2 seed2 a _ (H3.out.1.below (Below.refl _ _) hp3) hp3 (by omega)).mono ?_; rintro e w4 ⟨m, t, y, at4, seed4, rfl, ht, hy, hat4, hc4, hm4⟩; have H4 := Lib.hid (And.intro (H3.out.2.1.trans (Mostly.below (B := w.heap.size) (w := w3) ⟨hm4.os, hm4.tape, hm4.output, hm4.size, hm4.block⟩ (by omega) (by omega))) (And.intro (H3.out.2.2.1.mostly (w' := w4) ⟨hm4.os, hm4.tape, hm4.output, hm4.size, hm4.block⟩ hn0) (And.intro (H3.out.2.2.2.1.mostly (w' := w4) ⟨hm4.os, hm4.tape, hm4.output, hm4.size, hm4.block⟩ hn1) (H3.out.2.2.2.2.mostly (w' := w4) ⟨hm4.os, hm4.tape, hm4.output, hm4.size, hm4.block⟩ (Nat.ne_of_gt hp2))))); obtain ⟨d1, d2, d3⟩ := H4.out.2.2.2.hc; obtain ⟨r1, r2, r3⟩ := H4.out.2.1.hc; obtain ⟨f1, f2, f3⟩ := H4.out.2.1.hf; obtain ⟨q1, q2, q3⟩ := H4.out.2.2.1.hc; obtain ⟨g1, g2, g3⟩ := H4.out.2.2.1.hf; clear hc4 hm4))
  all_goals
    go_wp2
    refine bodyPost_ret (v := .tuple #[.agg #[.bool n, .string s, .int .i64 x], .agg #[.bool m, .string t, .int .i64 y]]) (by simp [results, Tryd.results13, go_sem, *]) rfl ?_
    refine ⟨n, s, x, m, t, y, rfl, ⟨hs, ht⟩, ⟨hx, hy⟩, ?_⟩
    exact set_three (set_three H4.out.1 (Nat.le_refl w.heap.size) _ _ _) (Nat.le_succ w.heap.size) _ _ _
set_option maxRecDepth 10000 in
set_option maxHeartbeats 2000000 in
theorem drawDecMul_any (a : Option Addr) (len cap : Nat) (z : List Int) (w : World) (hr : IsRow .u8 w a len cap z) (hlen : len ≤ 1048576) :
    Calls Tryd.prog 23 #[.slice a len cap] w (TwoDecs w) := by
  have HR := Lib.hid hr
  clear hr
  go_enter Tryd.func23, Tryd.ntmps23
  go_wp2_with fail
  obtain ⟨v0, hw0, hz0, hv0, hc0, hf0⟩ := one_laid w false ⟨#[]⟩ 0
  rw [hw0]
  have hs0 : v0.heap.size = w.heap.size + 1 := by rw [← hw0]; simp
  obtain ⟨w0, hw1, hz1, hv1, hc1, hf1⟩ := one_laid v0 false ⟨#[]⟩ 0
  rw [hw1]
  have HB0 := Lib.hid (hv0.trans (hv1.mono hv0.size))
  have HS0 := Lib.hid hs0
  obtain ⟨k0, k1, k2⟩ := one_kept hv1 hz0 hc0 hf0
  rw [hs0] at hz1 hc1 hf1
  have HG := Lib.hid (And.intro (And.intro k0 (And.intro k1 k2)) (And.intro hz1 (And.intro hc1 hf1)))
  clear hw0 hw1 hz0 hv0 hc0 hf0 hv1 hz1 hc1 hf1 k0 k1 k2 hs0
  refine (open_any a len cap z _ (HR.out.below HB0.out) hlen).mono ?_
  rintro e w1 ⟨p, seed, rfl, hlo, hp, hc, hb⟩
  have hz0 : w.heap.size + 1 < w0.heap.size := HG.out.2.1
  have hlow : w.heap.size + 1 < p := Nat.lt_of_lt_of_le hz0 hlo
  have hn0 : w.heap.size ≠ p := by omega
  have hn1 : w.heap.size + 1 ≠ p := by omega
  have H1 := Lib.hid (And.intro hc (And.intro (HB0.out.trans (hb.mono HB0.out.size)) (And.intro
    (show Lay p w.heap.size false ⟨#[]⟩ 0 w1 w1 by obtain ⟨a1, a2, a3⟩ := one_kept hb HG.out.1.1 HG.out.1.2.1 HG.out.1.2.2; exact ⟨.refl _ _, a1, a2, a3⟩)
    (show Lay p (w.heap.size + 1) false ⟨#[]⟩ 0 w1 w1 by obtain ⟨a1, a2, a3⟩ := one_kept hb HG.out.2.1 HG.out.2.2.1 HG.out.2.2.2; exact ⟨.refl _ _, a1, a2, a3⟩))))
  clear hc hb
  go_wp2_with fail
  refine (dec_any p len cap 0 seed a _ H1.out.1 hp (by omega)).mono ?_
  rintro e w2 ⟨n, s, x, at2, seed2, rfl, hs, hx, hat2, hc2, hm2⟩
  have hp2 : p < w2.heap.size := Nat.lt_of_lt_of_le hp hm2.size
  have H2 := Lib.hid (And.intro hc2 (And.intro (H1.out.2.1.trans (hm2.below (B := w.heap.size) (Nat.le_of_lt (Nat.lt_trans (Nat.lt_succ_self _) hlow)) (Nat.le_of_lt (Nat.lt_trans (Nat.lt_trans (Nat.lt_succ_self _) hlow) hp)))) (And.intro (H1.out.2.2.1.mostly hm2 hn0) (H1.out.2.2.2.mostly hm2 hn1))))
  clear hc2 hm2
  go_upto_region 3 with fail
  obtain ⟨w3, hw3, hz3, hv3, hc3, hf3⟩ := one_laid w2 n s x
  rw [hw3]
  have hp3 : p < w3.heap.size := Nat.lt_of_lt_of_le hp2 hv3.size
  have H3 := Lib.hid (And.intro (H2.out.1.below hv3 hp2) (And.intro (H2.out.2.1.trans (hv3.mono (by omega))) (And.intro (H2.out.2.2.1.mostly (.of_below hv3) hn0) (And.intro (H2.out.2.2.2.mostly (.of_below hv3) hn1) (show Lay p w2.heap.size n s x w3 w3 from ⟨.refl _ _, hz3, hc3, hf3⟩)))))
  have hg2 : w.heap.size + 1 < w2.heap.size := H2.out.2.2.2.hz
  obtain ⟨e1, e2, e3⟩ := hc3
  clear hw3 hv3 hf3
  have hne1 : ¬ (w.heap.size = w.heap.size + 1) := by omega
  have hne2 : ¬ (w.heap.size + 1 = w.heap.size) := by omega
  have hne3 : ¬ (w2.heap.size = w.heap.size) := by omega
  have hne4 : ¬ (w2.heap.size = w.heap.size + 1) := by omega
  have hne5 : ¬ (w.heap.size = w2.heap.size) := by omega
  have hne6 : ¬ (w.heap.size + 1 = w2.heap.size) := by omega
  go_region_with
    (first | (go_at_call 34; refine (dec_any p len cap at2 seed2 a _ (H3.out.1.below (Below.drew (Below.refl _ _)) hp3) hp3 (by omega)).mono ?_; rintro e w4 ⟨m, t, y, at4, seed4, rfl, ht, hy, hat4, hc4, hm4⟩; have H4 := Lib.hid (And.intro (H3.out.2.1.trans (Mostly.below (B := w.heap.size) (w := w3) ⟨hm4.os, hm4.tape, hm4.output, hm4.size, hm4.block⟩ (by omega) (by omega))) (And.intro (H3.out.2.2.1.mostly (w' := w4) ⟨hm4.os, hm4.tape, hm4.output, hm4.size, hm4.block⟩ hn0) (And.intro (H3.out.2.2.2.1.mostly (w' := w4) ⟨hm4.os, hm4.tape, hm4.output, hm4.size, hm4.block⟩ hn1) (H3.out.2.2.2.2.mostly (w' := w4) ⟨hm4.os, hm4.tape, hm4.output, hm4.size, hm4.block⟩ (Nat.ne_of_gt hp2))))); obtain ⟨d1, d2, d3⟩ := H4.out.2.2.2.hc; obtain ⟨r1, r2, r3⟩ := H4.out.2.1.hc; obtain ⟨f1, f2, f3⟩ := H4.out.2.1.hf; obtain ⟨q1, q2, q3⟩ := H4.out.2.2.1.hc; obtain ⟨g1, g2, g3⟩ := H4.out.2.2.1.hf; clear hc4 hm4) | (go_at_call 34; refine (dec_any p len cap at2 seed2 a _ (H3.out.1.below (Below.refl _ _) hp3) hp3 (by omega)).mono ?_; rintro e w4 ⟨m, t, y, at4, seed4, rfl, ht, hy, hat4, hc4, hm4⟩; have H4 := Lib.hid (And.intro (H3.out.2.1.trans (Mostly.below (B := w.heap.size) (w := w3) ⟨hm4.os, hm4.tape, hm4.output, hm4.size, hm4.block⟩ (by omega) (by omega))) (And.intro (H3.out.2.2.1.mostly (w' := w4) ⟨hm4.os, hm4.tape, hm4.output, hm4.size, hm4.block⟩ hn0) (And.intro (H3.out.2.2.2.1.mostly (w' := w4) ⟨hm4.os, hm4.tape, hm4.output, hm4.size, hm4.block⟩ hn1) (H3.out.2.2.2.2.mostly (w' := w4) ⟨hm4.os, hm4.tape, hm4.output, hm4.size, hm4.block⟩ (Nat.ne_of_gt hp2))))); obtain ⟨d1, d2, d3⟩ := H4.out.2.2.2.hc; obtain ⟨r1, r2, r3⟩ := H4.out.2.1.hc; obtain ⟨f1, f2, f3⟩ := H4.out.2.1.hf; obtain ⟨q1, q2, q3⟩ := H4.out.2.2.1.hc; obtain ⟨g1, g2, g3⟩ := H4.out.2.2.1.hf; clear hc4 hm4))
  all_goals
    go_wp2
    refine bodyPost_ret (v := .tuple #[.agg #[.bool n, .string s, .int .i64 x], .agg #[.bool m, .string t, .int .i64 y]]) (by simp [results, Tryd.results23, go_sem, *]) rfl ?_
    refine ⟨n, s, x, m, t, y, rfl, ⟨hs, ht⟩, ⟨hx, hy⟩, ?_⟩
    exact set_three (set_three H4.out.1 (Nat.le_refl w.heap.size) _ _ _) (Nat.le_succ w.heap.size) _ _ _
end Go.Proofs.YtjjpdoabagnmoaaDoor

/-
  Texts of this claim in one file, in build order: DrawDecs, Betw. Each says ahead what it proves and under which conditions.
-/
import Derived.Test.YtjjpdoabagnmoaaGreatDoorQ07
import Derived.Deep.RegionHeld3
import Derived.Test.YtjjpdoabagnmoaaGreatDoorQ01
import Derived.WalkKit
import Derived.WalkLawsBesides
import Derived.BigQuiet
import Derived.Deep.Light
/-
  The contracts of the draws of one number and of two: parts of whatever values; nothing that was there is written. Condition: a code of at most 2 to the 20 bytes.
-/
namespace Go.Proofs.YtjjpdoabagnmoaaGreatDoor
open Go.RowKit
set_option linter.unusedVariables false
set_option linter.unusedSimpArgs false

theorem wf_of {x : Int} (h : -9223372036854775808 ≤ x ∧ x ≤ 9223372036854775807) : (Lit.int .i64 x).wf = true := by
  simpa [Lit.wf, IntKind.min, IntKind.max, IntKind.signed, IntKind.bits] using h
/-- what a draw of one number leaves -/
def OneDec (w : World) (e : Ending) (w' : World) : Prop := ∃ (n : Bool) (s : ByteArray) (x : Int), e = .returned (.agg #[.bool n, .string s, .int .i64 x]) ∧ s.size ≤ 1000 ∧ (-9223372036854775808 ≤ x ∧ x ≤ 9223372036854775807) ∧ Below w.heap.size w w'
/-- what a draw of two numbers leaves -/
def TwoDecs (w : World) (e : Ending) (w' : World) : Prop := ∃ (n : Bool) (s : ByteArray) (x : Int) (m : Bool) (t : ByteArray) (y : Int), e = .returned (.tuple #[.agg #[.bool n, .string s, .int .i64 x], .agg #[.bool m, .string t, .int .i64 y]]) ∧ (s.size ≤ 1000 ∧ t.size ≤ 1000) ∧ ((-9223372036854775808 ≤ x ∧ x ≤ 9223372036854775807) ∧ (-9223372036854775808 ≤ y ∧ y ≤ 9223372036854775807)) ∧ Below w.heap.size w w'
theorem IsRow.below {k : IntKind} {w w' : World} {a : Option Addr} {len cap : Nat} {zs : List Int} (h : IsRow k w a len cap zs) (hb : Below w.heap.size w w') : IsRow k w' a len cap zs := by
  rcases h with h | ⟨x, ha, h1, h2, h3, hc, hw⟩
  · exact .inl h
  · refine .inr ⟨x, ha, h1, h2, h3, fun i hi => ?_, hw⟩
    have e := hc i hi
    rw [hb.cell (p := x.add i) (Lib.lt_of_cell e)]
    exact e
set_option maxRecDepth 10000 in
set_option maxHeartbeats 1000000 in
theorem drawDecText_any (a : Option Addr) (len cap : Nat) (z : List Int) (w : World) (hr : IsRow .u8 w a len cap z) (hlen : len ≤ 1048576) :
    Calls Tryz.prog 14 #[.slice a len cap] w (OneDec w) := by
  have HR := Lib.hid hr
  clear hr
  go_enter Tryz.func14, Tryz.ntmps14
  go_wp2_with fail
  obtain ⟨w0, hw0, hz0, hv0, hc0, hf0⟩ := one_laid w false ⟨#[]⟩ 0
  rw [hw0]
  clear hw0
  refine (open_any a len cap z _ (HR.out.below hv0) hlen).mono ?_
  rintro e w1 ⟨p, seed, rfl, hlo, hp, hc, hb⟩
  obtain ⟨hz1, hc1, hf1⟩ := one_kept hb hz0 hc0 hf0
  have H1 := Lib.hid (And.intro hc (hv0.trans (hb.mono hv0.size)))
  have hlow : w.heap.size < p := Nat.lt_of_lt_of_le hz0 hlo
  have HK := Lib.hid (And.intro hc1 hf1)
  clear hc hb hz0 hv0 hc0 hf0 hlo hc1 hf1
  go_wp2_with fail
  refine (dec_any p len cap 0 seed a _ H1.out.1 hp (by omega)).mono ?_
  rintro e w2 ⟨n, t, x, at2, seed2, rfl, ht, hx, hat2, hc2, hm2⟩
  have hL := Lay.mostly (p := p) (w := w1) ⟨Mostly.refl p w1, Nat.lt_trans hlow hp, HK.out.1, HK.out.2⟩ hm2 (Nat.ne_of_lt hlow)
  have hv2 := H1.out.2.trans (hm2.below (Nat.le_of_lt hlow) (Nat.le_of_lt (Nat.lt_trans hlow hp)))
  obtain ⟨q1, q2, q3⟩ := hL.hc
  obtain ⟨g1, g2, g3⟩ := hL.hf
  clear hc2 hm2 hL
  go_wp2
  refine bodyPost_ret (v := .agg #[.bool n, .string t, .int .i64 x]) (by simp [results, Tryz.results14, go_sem, *]) rfl ?_
  exact ⟨n, t, x, rfl, ht, hx, set_three hv2 (Nat.le_refl w.heap.size) _ _ _⟩
end Go.Proofs.YtjjpdoabagnmoaaGreatDoor
/-
  The contracts of the smallest helpers: within and l01Between, isPoint and l01Point. No condition.
-/
namespace Go.Proofs.YtjjpdoabagnmoaaGreatDoor
open Go.RowKit
set_option linter.unusedVariables false
set_option linter.unusedSimpArgs false

/-- lo ≤ n ≤ hi, as the walks meet it -/
def betw (n lo hi : Int) : Bool := decide (lo ≤ n) && decide (n ≤ hi)
theorem betw_nat {x : Int} (h : betw x 0 600 = true) : ∃ n : Nat, x = (n : Int) ∧ n ≤ 600 := by
  simp [betw] at h
  exact ⟨x.toNat, by omega, by omega⟩
theorem within_any (n lo hi : Int) (w : World) :
    Calls Tryz.prog 69 #[.int .i64 n, .int .i64 lo, .int .i64 hi] w fun e w' => e = .returned (.bool (betw n lo hi)) ∧ w' = w := by
  go_enter Tryz.func69, Tryz.ntmps69
  go_wp2
  all_goals go_ret
  all_goals refine ⟨ret_bool ?_, rfl⟩
  all_goals (simp [betw, *] <;> omega)

theorem l01Between_any (n lo hi : Int) (w : World) :
    Calls Tryz.prog 38 #[.int .i64 n, .int .i64 lo, .int .i64 hi] w fun e w' => e = .returned (.bool (betw n lo hi)) ∧ w' = w := by
  go_enter Tryz.func38, Tryz.ntmps38
  go_wp2
  all_goals go_ret
  all_goals refine ⟨ret_bool ?_, rfl⟩
  all_goals (simp [betw, *] <;> omega)

theorem l01Point_any (c : Int) (w : World) :
    Calls Tryz.prog 144 #[.int .i64 c] w fun e w' => e = .returned (.bool (isPt c)) ∧ w' = w := by
  go_enter Tryz.func144, Tryz.ntmps144
  go_wp2_with (go_at_call 38; refine (l01Between_any _ _ _ _).mono ?_; rintro e w1 ⟨rfl, rfl⟩)
  all_goals go_ret
  all_goals refine ⟨ret_bool ?_, rfl⟩
  all_goals go_light
  all_goals (simp only [betw] at *; simp [isPt, *])

end Go.Proofs.YtjjpdoabagnmoaaGreatDoor

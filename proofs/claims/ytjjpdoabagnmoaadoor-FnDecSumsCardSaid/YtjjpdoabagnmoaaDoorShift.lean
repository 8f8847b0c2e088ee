/-
  The contract of a natural times a power of ten, the program's. Conditions: a canonical row and a power, no longer than 2 to the 39.
-/
import Derived.Test.YtjjpdoabagnmoaaDoorRounds
import Derived.Test.YtjjpdoabagnmoaaDoorNat1
import Derived.Lib.SmallJoins
namespace Go.Proofs.YtjjpdoabagnmoaaDoor
open Go.RowKit
set_option linter.unusedVariables false
set_option linter.unusedSimpArgs false

theorem repeat_zs (n : Nat) (w : World) (hn : n ≤ 549755813888) :
    Calls Tryd.prog 103 #[.string ⟨#[48]⟩, .int .i64 (n : Int)] w fun e w' => e = .returned (.string (ofL (zs n))) ∧ Below w.heap.size w w' := by
  refine (Tryd.strings_Repeat ⟨#[48]⟩ n w (by omega) (by show 1 * n ≤ _; omega)).mono ?_
  rintro e w' ⟨rfl, hb⟩
  refine ⟨?_, hb⟩
  rw [← zs_repeat]; rfl

theorem natShift_any (s : ByteArray) (n : Nat) (w : World) (hc : Canon (bs s)) (hs : s.size ≤ 549755813888) (hn : n ≤ 549755813888) :
    Calls Tryd.prog 83 #[.string s, .int .i64 (n : Int)] w fun e w' => e = .returned (.string (ofL (dec (val (bs s) * 10 ^ n)))) ∧ Below w.heap.size w w' := by
  by_cases hz : bs s = [48]
  · have hzb : (s.toList == [48]) = true := by rw [toList_bs, hz]; rfl
    have hv : val (bs s) * 10 ^ n = 0 := by rw [hz, show val [48] = 0 from rfl, Nat.zero_mul]
    have hs0 : s = ofL (dec 0) := by rw [dec_zero, ← hz, ofL_bs]
    rw [hv, ← hs0]
    clear hv hs0 hz hc
    go_enter Tryd.func83, Tryd.ntmps83
    go_wp2
    go_ret
    exact ⟨rfl, Below.refl _ _⟩
  · have hzb : (s.toList == [48]) = false := by rw [toList_bs]; simpa using hz
    have hp : 0 < val (bs s) := by
      by_cases e : val (bs s) = 0
      · have := canon_dec hc
        rw [e, dec_zero] at this; exact absurd this.symm hz
      · omega
    have HD := Lib.hid (dec_shift hc hp n)
    have hsz := size_ofL (zs n)
    rw [zs_len] at hsz
    clear hz hp hc
    go_enter Tryd.func83, Tryd.ntmps83
    go_wp2_with fail
    refine (repeat_zs n _ hn).mono ?_
    rintro e w1 ⟨rfl, hb1⟩
    have HB1 := Lib.hid hb1
    clear hb1
    have hno : ¬ (9223372036854775807 < s.size + n) := by omega
    go_wp2
    go_ret
    refine ⟨?_, HB1.out⟩
    have e : bs (s ++ ofL (zs n)) = dec (val (bs s) * 10 ^ n) := by rw [bs_app, bs_ofL, HD.out]
    rw [← e, ofL_bs]; rfl
end Go.Proofs.YtjjpdoabagnmoaaDoor

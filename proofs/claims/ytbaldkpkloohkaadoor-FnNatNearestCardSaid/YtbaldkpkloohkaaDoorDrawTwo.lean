/-
  The contracts of the draws of two naturals: two texts of at most 1000 bytes; nothing that was there is written. Condition: a code of at most 2 to the 20 bytes.
-/
import Derived.Test.YtbaldkpkloohkaaDoorDrawNat
namespace Go.Proofs.YtbaldkpkloohkaaDoor
open Go.RowKit
set_option linter.unusedVariables false
set_option linter.unusedSimpArgs false

/-- what a draw of two texts leaves -/
def TwoTexts (w : World) (e : Ending) (w' : World) : Prop := ∃ s t : ByteArray, e = .returned (.tuple #[.string s, .string t]) ∧ s.size ≤ 1000 ∧ t.size ≤ 1000 ∧ Below w.heap.size w w'

theorem drawNatAdd_any (a : Option Addr) (len cap : Nat) (z : List Int) (w : World) (hr : IsRow .u8 w a len cap z) (hlen : len ≤ 1048576) :
    Calls Tryd.prog 28 #[.slice a len cap] w (TwoTexts w) := by
  have HR := Lib.hid hr
  clear hr
  go_enter Tryd.func28, Tryd.ntmps28
  go_wp2_with fail
  refine (open_any a len cap z _ HR.out hlen).mono ?_
  rintro e w1 ⟨p, seed, rfl, hlo, hp, hc, hb⟩
  have H1 := Lib.hid (And.intro hc hb)
  clear hc hb
  go_wp2_with fail
  refine (nat_any p len cap 0 seed 14 a _ H1.out.1 hp (by omega) (by omega)).mono ?_
  rintro e w2 ⟨s, at2, seed2, rfl, hs, hat2, hc2, hb2, hp2⟩
  have H2 := Lib.hid (And.intro hc2 (H1.out.2.trans (hb2.mono hlo)))
  clear hc2 hb2
  go_wp2_with fail
  refine (nat_any p len cap at2 seed2 14 a _ H2.out.1 hp2 (by omega) (by omega)).mono ?_
  rintro e w3 ⟨t, at3, seed3, rfl, ht, hat3, hc3, hb3, hp3⟩
  have H3 := Lib.hid (And.intro hc3 (H2.out.2.trans (hb3.mono hlo)))
  clear hc3 hb3
  go_wp2
  refine bodyPost_ret (v := .tuple #[.string s, .string t]) (by simp [results, Tryd.results28, go_sem, *]) rfl ?_
  exact ⟨s, t, rfl, hs, ht, H3.out.2⟩
theorem drawNatDiv_any (a : Option Addr) (len cap : Nat) (z : List Int) (w : World) (hr : IsRow .u8 w a len cap z) (hlen : len ≤ 1048576) :
    Calls Tryd.prog 22 #[.slice a len cap] w (TwoTexts w) := by
  have HR := Lib.hid hr
  clear hr
  go_enter Tryd.func22, Tryd.ntmps22
  go_wp2_with fail
  refine (open_any a len cap z _ HR.out hlen).mono ?_
  rintro e w1 ⟨p, seed, rfl, hlo, hp, hc, hb⟩
  have H1 := Lib.hid (And.intro hc hb)
  clear hc hb
  go_wp2_with fail
  refine (nat_any p len cap 0 seed 20 a _ H1.out.1 hp (by omega) (by omega)).mono ?_
  rintro e w2 ⟨s, at2, seed2, rfl, hs, hat2, hc2, hb2, hp2⟩
  have H2 := Lib.hid (And.intro hc2 (H1.out.2.trans (hb2.mono hlo)))
  clear hc2 hb2
  go_wp2_with fail
  refine (nat_any p len cap at2 seed2 6 a _ H2.out.1 hp2 (by omega) (by omega)).mono ?_
  rintro e w3 ⟨t, at3, seed3, rfl, ht, hat3, hc3, hb3, hp3⟩
  have H3 := Lib.hid (And.intro hc3 (H2.out.2.trans (hb3.mono hlo)))
  clear hc3 hb3
  go_wp2
  refine bodyPost_ret (v := .tuple #[.string s, .string t]) (by simp [results, Tryd.results22, go_sem, *]) rfl ?_
  exact ⟨s, t, rfl, hs, ht, H3.out.2⟩
end Go.Proofs.YtbaldkpkloohkaaDoor

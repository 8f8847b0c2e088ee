/-
  The contract of the draw of a natural and a number of digits; nothing that was there is written. Condition: a code of at most 2 to the 20 bytes.
-/
import Derived.Test.YtbaldkpkloohkaaDoorDrawTwo
namespace Go.Proofs.YtbaldkpkloohkaaDoor
open Go.RowKit
set_option linter.unusedVariables false
set_option linter.unusedSimpArgs false

/-- what a draw of a text and a number leaves -/
def TextNumber (w : World) (e : Ending) (w' : World) : Prop := ∃ (s : ByteArray) (x : Int), e = .returned (.tuple #[.string s, .int .i64 x]) ∧ s.size ≤ 1100 ∧ Below w.heap.size w w'

theorem drawNatRound_any (a : Option Addr) (len cap : Nat) (z : List Int) (w : World) (hr : IsRow .u8 w a len cap z) (hlen : len ≤ 1048576) :
    Calls Tryd.prog 25 #[.slice a len cap] w (TextNumber w) := by
  have HR := Lib.hid hr
  clear hr
  go_enter Tryd.func25, Tryd.ntmps25
  go_wp2_with fail
  refine (open_any a len cap z _ HR.out hlen).mono ?_
  rintro e w1 ⟨p, seed, rfl, hlo, hp, hc, hb⟩
  have H1 := Lib.hid (And.intro hc hb)
  clear hc hb
  go_wp2_with fail
  refine (nat_any p len cap 0 seed 14 a _ H1.out.1 hp (by omega) (by omega)).mono ?_
  rintro e w2 ⟨s, at2, seed2, rfl, hs, hat2, hc2, hb2, hp2⟩
  have H2 := Lib.hid (And.intro hc2 (H1.out.2.trans (hb2.mono hlo)))
  clear hc2 hb2
  go_wp2_with fail
  refine (pick_any p len cap at2 seed2 2 a _ H2.out.1 (by omega) (by omega)).mono ?_
  rintro e w3 ⟨x, at3, seed3, rfl, hx, hat3, hc3, ho3⟩
  have hp3 : p < w3.heap.size := by rw [ho3.size]; exact hp2
  have H3 := Lib.hid (And.intro hc3 (H2.out.2.trans (ho3.below hlo)))
  clear hc3 ho3
  rcases (by omega : x = 0 ∨ x = 1) with rfl | rfl
  · go_wp2_with fail
    refine (pick_any p len cap at3 seed3 4 a _ H3.out.1 (by omega) (by omega)).mono ?_
    rintro e w4 ⟨y, at4, seed4, rfl, hy, hat4, hc4, ho4⟩
    have hp4 : p < w4.heap.size := by rw [ho4.size]; exact hp3
    have H4 := Lib.hid (And.intro hc4 (H3.out.2.trans (ho4.below hlo)))
    have hz2 := size_ofL (zs y)
    rw [zs_len] at hz2
    clear hc4 ho4
    go_wp2_with fail
    refine (l02Zeros_any y _ (by omega)).mono ?_
    rintro e w5 ⟨rfl, hb5⟩
    have hp5 : p < w5.heap.size := Nat.lt_of_lt_of_le hp4 hb5.size
    have H5 := Lib.hid (And.intro (H4.out.1.below hb5 hp4) (H4.out.2.trans (hb5.mono (Nat.le_trans hlo (Nat.le_of_lt hp4)))))
    have hno : ¬ (9223372036854775807 < s.size + 1) := by omega
    have hno2 : ¬ (9223372036854775807 < s.size + 1 + y) := by omega
    clear hb5
    go_wp2_with fail
    refine (pick_any p len cap at4 seed4 7 a _ H5.out.1 (by omega) (by omega)).mono ?_
    rintro e w6 ⟨v, at5, seed5, rfl, hv, hat5, hc5, ho5⟩
    have H6 := Lib.hid (H5.out.2.trans (ho5.below hlo))
    have hsz : (s ++ (⟨#[53]⟩ : ByteArray) ++ ofL (zs y)).size ≤ 1100 := by
      rw [← bs_length, bs_app, bs_app, List.length_append, List.length_append, bs_length, bs_length, bs_length]
      have : (⟨#[53]⟩ : ByteArray).size = 1 := rfl
      omega
    clear hc5 ho5
    go_wp2
    refine bodyPost_ret (v := .tuple #[.string (s ++ (⟨#[53]⟩ : ByteArray) ++ ofL (zs y)), .int .i64 (v : Int)]) (by simp [results, Tryd.results25, go_sem, *]) rfl ?_
    exact ⟨_, _, rfl, hsz, H6.out⟩
  · go_wp2_with fail
    refine (raw_any p len cap at3 seed3 a _ H3.out.1 hp3 (by omega)).mono ?_
    rintro e w4 ⟨x, at4, seed4, rfl, hat4, hc4, hb4, hp4⟩
    have H4 := Lib.hid (H3.out.2.trans (hb4.mono hlo))
    clear hc4 hb4
    go_wp2
    refine bodyPost_ret (v := .tuple #[.string s, .int .i64 x]) (by simp [results, Tryd.results25, go_sem, *]) rfl ?_
    exact ⟨s, x, rfl, by omega, H4.out⟩
end Go.Proofs.YtbaldkpkloohkaaDoor

/-
  The walk of FnExactNatDiv, out of the contracts. No condition.
-/
import Derived.Test.YtbaldkpkloohkaaDoorNatDivS
import Derived.Test.YtbaldkpkloohkaaDoorNatOk
namespace Go.Proofs.YtbaldkpkloohkaaDoor
open Go.RowKit
set_option linter.unusedVariables false
set_option linter.unusedSimpArgs false

theorem natOk_pos {l : List UInt8} (h : natOk l = true) (h0 : l ≠ [48]) : 0 < val l := by
  have hc := (natOk_canon h).1
  have := canon_dec hc
  by_cases e : val l = 0
  · rw [e, dec_zero] at this; exact absurd this.symm h0
  · omega

theorem specNatDiv_no (s t : ByteArray) (w : World) (hs : s.size ≤ maxLen) (ht : t.size ≤ maxLen) (h : natOk (bs s) = false ∨ natOk (bs t) = false ∨ bs t = [48]) :
    Calls Tryd.prog 17 #[.string s, .string t] w fun e w' => e = .returned (.tuple #[.string ⟨#[]⟩, .string ⟨#[]⟩, .bool false]) ∧ Below w.heap.size w w' := by
  cases ha : natOk (bs s)
  · go_enter Tryd.func17, Tryd.ntmps17
    go_wp2_with fail
    refine (specNatOk_any _ _ hs).mono ?_
    rintro e w1 ⟨rfl, hw1⟩
    obtain rfl : w = w1 := hw1
    go_wp2
    refine bodyPost_ret (v := .tuple #[.string ⟨#[]⟩, .string ⟨#[]⟩, .bool false]) (by simp [results, Tryd.results17, go_sem, *]) rfl ⟨rfl, ?_⟩
    exact Below.refl _ _
  · cases hb : natOk (bs t)
    · go_enter Tryd.func17, Tryd.ntmps17
      go_wp2_with fail
      refine (specNatOk_any _ _ hs).mono ?_
      rintro e w1 ⟨rfl, hw1⟩
      obtain rfl : w = w1 := hw1
      go_wp2_with fail
      refine (specNatOk_any _ _ ht).mono ?_
      rintro e w1 ⟨rfl, hw1⟩
      obtain rfl : w = w1 := hw1
      go_wp2
      refine bodyPost_ret (v := .tuple #[.string ⟨#[]⟩, .string ⟨#[]⟩, .bool false]) (by simp [results, Tryd.results17, go_sem, *]) rfl ⟨rfl, ?_⟩
      exact Below.refl _ _
    · have hz : bs t = [48] := by simpa [ha, hb] using h
      have hzb : (t.toList == [48]) = true := by rw [toList_bs, hz]; rfl
      go_enter Tryd.func17, Tryd.ntmps17
      go_wp2_with fail
      refine (specNatOk_any _ _ hs).mono ?_
      rintro e w1 ⟨rfl, hw1⟩
      obtain rfl : w = w1 := hw1
      go_wp2_with fail
      refine (specNatOk_any _ _ ht).mono ?_
      rintro e w1 ⟨rfl, hw1⟩
      obtain rfl : w = w1 := hw1
      go_wp2
      refine bodyPost_ret (v := .tuple #[.string ⟨#[]⟩, .string ⟨#[]⟩, .bool false]) (by simp [results, Tryd.results17, go_sem, *]) rfl ⟨rfl, ?_⟩
      exact Below.refl _ _

theorem specNatDiv_yes (s t : ByteArray) (w : World) (hs : s.size ≤ maxLen) (ht : t.size ≤ maxLen) (ha : natOk (bs s) = true) (hb : natOk (bs t) = true) (hz : bs t ≠ [48]) :
    Calls Tryd.prog 17 #[.string s, .string t] w fun e w' => e = .returned (.tuple #[.string (ofL (dec (val (bs s) / val (bs t)))), .string (ofL (dec (val (bs s) % val (bs t)))), .bool true]) ∧ Below w.heap.size w w' := by
  obtain ⟨c1, l1⟩ := natOk_canon ha
  obtain ⟨c2, l2⟩ := natOk_canon hb
  rw [bs_length] at l1 l2
  have HC := Lib.hid (And.intro c1 c2)
  have HP := Lib.hid (natOk_pos hb hz)
  have hzb : (t.toList == [48]) = false := by rw [toList_bs]; simpa using hz
  clear c1 c2 hz
  go_enter Tryd.func17, Tryd.ntmps17
  go_wp2_with fail
  refine (specNatOk_any _ _ hs).mono ?_
  rintro e w1 ⟨rfl, hw1⟩
  obtain rfl : w = w1 := hw1
  go_wp2_with fail
  refine (specNatOk_any _ _ ht).mono ?_
  rintro e w1 ⟨rfl, hw1⟩
  obtain rfl : w = w1 := hw1
  go_wp2_with fail
  refine (l02Div_any s t _ HC.out.1.dig HC.out.2.dig (by omega) (by omega) HP.out).mono ?_
  rintro e w2 ⟨rfl, hb2⟩
  have HB2 := Lib.hid hb2
  clear hb2
  go_wp2
  refine bodyPost_ret (v := .tuple #[.string (ofL (dec (val (bs s) / val (bs t)))), .string (ofL (dec (val (bs s) % val (bs t)))), .bool true]) (by simp [results, Tryd.results17, go_sem, *]) rfl ⟨rfl, ?_⟩
  exact HB2.out

theorem implNatDiv_no (s t : ByteArray) (w : World) (hs : s.size ≤ maxLen) (ht : t.size ≤ maxLen) (h : natOk (bs s) = false ∨ natOk (bs t) = false ∨ bs t = [48]) :
    Calls Tryd.prog 18 #[.string s, .string t] w fun e w' => e = .returned (.tuple #[.string ⟨#[]⟩, .string ⟨#[]⟩, .bool false]) ∧ Below w.heap.size w w' := by
  cases ha : natOk (bs s)
  · go_enter Tryd.func18, Tryd.ntmps18
    go_wp2_with fail
    refine (isNat_any _ _ hs).mono ?_
    rintro e w1 ⟨rfl, hw1⟩
    obtain rfl : w = w1 := hw1
    go_wp2
    refine bodyPost_ret (v := .tuple #[.string ⟨#[]⟩, .string ⟨#[]⟩, .bool false]) (by simp [results, Tryd.results18, go_sem, *]) rfl ⟨rfl, ?_⟩
    exact Below.refl _ _
  · cases hb : natOk (bs t)
    · go_enter Tryd.func18, Tryd.ntmps18
      go_wp2_with fail
      refine (isNat_any _ _ hs).mono ?_
      rintro e w1 ⟨rfl, hw1⟩
      obtain rfl : w = w1 := hw1
      go_wp2_with fail
      refine (isNat_any _ _ ht).mono ?_
      rintro e w1 ⟨rfl, hw1⟩
      obtain rfl : w = w1 := hw1
      go_wp2
      refine bodyPost_ret (v := .tuple #[.string ⟨#[]⟩, .string ⟨#[]⟩, .bool false]) (by simp [results, Tryd.results18, go_sem, *]) rfl ⟨rfl, ?_⟩
      exact Below.refl _ _
    · have hz : bs t = [48] := by simpa [ha, hb] using h
      have hzb : (t.toList == [48]) = true := by rw [toList_bs, hz]; rfl
      go_enter Tryd.func18, Tryd.ntmps18
      go_wp2_with fail
      refine (isNat_any _ _ hs).mono ?_
      rintro e w1 ⟨rfl, hw1⟩
      obtain rfl : w = w1 := hw1
      go_wp2_with fail
      refine (isNat_any _ _ ht).mono ?_
      rintro e w1 ⟨rfl, hw1⟩
      obtain rfl : w = w1 := hw1
      go_wp2
      refine bodyPost_ret (v := .tuple #[.string ⟨#[]⟩, .string ⟨#[]⟩, .bool false]) (by simp [results, Tryd.results18, go_sem, *]) rfl ⟨rfl, ?_⟩
      exact Below.refl _ _

theorem implNatDiv_yes (s t : ByteArray) (w : World) (hs : s.size ≤ maxLen) (ht : t.size ≤ maxLen) (ha : natOk (bs s) = true) (hb : natOk (bs t) = true) (hz : bs t ≠ [48]) :
    Calls Tryd.prog 18 #[.string s, .string t] w fun e w' => e = .returned (.tuple #[.string (ofL (dec (val (bs s) / val (bs t)))), .string (ofL (dec (val (bs s) % val (bs t)))), .bool true]) ∧ Below w.heap.size w w' := by
  obtain ⟨c1, l1⟩ := natOk_canon ha
  obtain ⟨c2, l2⟩ := natOk_canon hb
  rw [bs_length] at l1 l2
  have HC := Lib.hid (And.intro c1 c2)
  have HP := Lib.hid (natOk_pos hb hz)
  have hzb : (t.toList == [48]) = false := by rw [toList_bs]; simpa using hz
  clear c1 c2 hz
  go_enter Tryd.func18, Tryd.ntmps18
  go_wp2_with fail
  refine (isNat_any _ _ hs).mono ?_
  rintro e w1 ⟨rfl, hw1⟩
  obtain rfl : w = w1 := hw1
  go_wp2_with fail
  refine (isNat_any _ _ ht).mono ?_
  rintro e w1 ⟨rfl, hw1⟩
  obtain rfl : w = w1 := hw1
  go_wp2_with fail
  refine (natDiv_any s t _ HC.out.1.dig HC.out.2 (by omega) (by omega) HP.out).mono ?_
  rintro e w2 ⟨rfl, hb2⟩
  have HB2 := Lib.hid hb2
  clear hb2
  go_wp2
  refine bodyPost_ret (v := .tuple #[.string (ofL (dec (val (bs s) / val (bs t)))), .string (ofL (dec (val (bs s) % val (bs t)))), .bool true]) (by simp [results, Tryd.results18, go_sem, *]) rfl ⟨rfl, ?_⟩
  exact HB2.out

theorem fnExactNatDiv_law (s t u v : ByteArray) (b : Bool) (w : World) (hb1 : s.size ≤ 1048576) (hb2 : t.size ≤ 1048576)
    (hA : ∀ w, Calls Tryd.prog 17 #[.string s, .string t] w fun e w' => e = .returned (.tuple #[.string u, .string v, .bool b]) ∧ Below w.heap.size w w')
    (hB : ∀ w, Calls Tryd.prog 18 #[.string s, .string t] w fun e w' => e = .returned (.tuple #[.string u, .string v, .bool b]) ∧ Below w.heap.size w w') :
    Calls Tryd.prog 6 #[.string s, .string t] w fun e w' => e = .returned (.bool true) ∧ Below w.heap.size w w' := by
  have HA := Lib.hid hA
  have HB := Lib.hid hB
  clear hA hB
  go_enter Tryd.func6, Tryd.ntmps6
  go_wp2_with fail
  refine (HA.out _).mono ?_
  rintro e w1 ⟨rfl, hb1⟩
  have HB1 := Lib.hid hb1
  clear hb1
  go_wp2_with fail
  refine (HB.out _).mono ?_
  rintro e w2 ⟨rfl, hb2⟩
  have HB2 := Lib.hid (HB1.out.trans (hb2.mono HB1.out.size))
  clear hb2
  have hne2 : (b != b) = false := by simp
  go_wp2
  go_ret
  exact ⟨rfl, HB2.out⟩

theorem fnExactNatDiv_walk (s : ByteArray) (hs : s.size ≤ maxLen) (t : ByteArray) (ht : t.size ≤ maxLen) (w : World) :
    Calls Tryd.prog 6 #[.string s, .string t] w fun e w' => e = .returned (.bool true) ∧ Below w.heap.size w w' := by
  have hs' := hs
  have ht' := ht
  unfold maxLen at hs' ht'
  by_cases hb : 1048576 < s.size
  · go_enter Tryd.func6, Tryd.ntmps6
    go_wp2
    go_ret
    exact ⟨rfl, Below.refl _ _⟩
  · by_cases hb' : 1048576 < t.size
    · go_enter Tryd.func6, Tryd.ntmps6
      go_wp2
      go_ret
      exact ⟨rfl, Below.refl _ _⟩
    · by_cases h : natOk (bs s) = false ∨ natOk (bs t) = false ∨ bs t = [48]
      · exact fnExactNatDiv_law s t _ _ _ w (by omega) (by omega) (fun w => specNatDiv_no s t w hs ht h) (fun w => implNatDiv_no s t w hs ht h)
      · have h1 : natOk (bs s) = true := by cases e : natOk (bs s) with | true => rfl | false => exact absurd (.inl e) h
        have h2 : natOk (bs t) = true := by cases e : natOk (bs t) with | true => rfl | false => exact absurd (.inr (.inl e)) h
        have h3 : bs t ≠ [48] := fun e => h (.inr (.inr e))
        exact fnExactNatDiv_law s t _ _ _ w (by omega) (by omega) (fun w => specNatDiv_yes s t w hs ht h1 h2 h3) (fun w => implNatDiv_yes s t w hs ht h1 h2 h3)
end Go.Proofs.YtbaldkpkloohkaaDoor

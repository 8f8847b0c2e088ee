/-
  The walk of FnExactNatSub, out of the contracts. No condition.
-/
import Derived.Test.YtbaldkpkloohkaaDoorNatSubS
import Derived.Test.YtbaldkpkloohkaaDoorNatOk
namespace Go.Proofs.YtbaldkpkloohkaaDoor
open Go.RowKit
set_option linter.unusedVariables false
set_option linter.unusedSimpArgs false

theorem specNatSub_no (s t : ByteArray) (w : World) (hs : s.size ≤ maxLen) (ht : t.size ≤ maxLen) (h : natOk (bs s) = false ∨ natOk (bs t) = false) :
    Calls Tryd.prog 15 #[.string s, .string t] w fun e w' => e = .returned (.tuple #[.string ⟨#[]⟩, .bool false]) ∧ Below w.heap.size w w' := by
  cases ha : natOk (bs s)
  · go_enter Tryd.func15, Tryd.ntmps15
    go_wp2_with fail
    refine (specNatOk_any _ _ hs).mono ?_
    rintro e w1 ⟨rfl, rfl⟩
    go_wp2
    refine bodyPost_ret (v := .tuple #[.string ⟨#[]⟩, .bool false]) (by simp [results, Tryd.results15, go_sem, *]) rfl ⟨rfl, ?_⟩
    exact Below.refl _ _
  · have hb : natOk (bs t) = false := by simpa [ha] using h
    go_enter Tryd.func15, Tryd.ntmps15
    go_wp2_with fail
    refine (specNatOk_any _ _ hs).mono ?_
    rintro e w1 ⟨rfl, hw1⟩
    obtain rfl : w = w1 := hw1
    go_wp2_with fail
    refine (specNatOk_any _ _ ht).mono ?_
    rintro e w1 ⟨rfl, rfl⟩
    go_wp2
    refine bodyPost_ret (v := .tuple #[.string ⟨#[]⟩, .bool false]) (by simp [results, Tryd.results15, go_sem, *]) rfl ⟨rfl, ?_⟩
    exact Below.refl _ _

theorem specNatSub_less (s t : ByteArray) (w : World) (hs : s.size ≤ maxLen) (ht : t.size ≤ maxLen) (ha : natOk (bs s) = true) (hb : natOk (bs t) = true) (hlt : val (bs s) < val (bs t)) :
    Calls Tryd.prog 15 #[.string s, .string t] w fun e w' => e = .returned (.tuple #[.string ⟨#[]⟩, .bool false]) ∧ Below w.heap.size w w' := by
  obtain ⟨c1, l1⟩ := natOk_canon ha
  obtain ⟨c2, l2⟩ := natOk_canon hb
  rw [bs_length] at l1 l2
  have HC := Lib.hid (And.intro c1 c2)
  clear c1 c2
  go_enter Tryd.func15, Tryd.ntmps15
  go_wp2_with fail
  refine (specNatOk_any _ _ hs).mono ?_
  rintro e w1 ⟨rfl, hw1⟩
  obtain rfl : w = w1 := hw1
  go_wp2_with fail
  refine (specNatOk_any _ _ ht).mono ?_
  rintro e w1 ⟨rfl, hw1⟩
  obtain rfl : w = w1 := hw1
  go_wp2_with fail
  refine (l02Cmp_any s t _ HC.out.1.dig HC.out.2.dig (by omega) (by omega)).mono ?_
  rintro e w1 ⟨rfl, hb1⟩
  have HB1 := Lib.hid (show Below w.heap.size w w1 from (by rw [hb1]; exact Below.refl _ _))
  clear hb1
  have hc : cmpN (val (bs s)) (val (bs t)) = -1 := by unfold cmpN; rw [if_pos hlt]
  rw [hc]
  clear hc hlt
  go_wp2
  refine bodyPost_ret (v := .tuple #[.string ⟨#[]⟩, .bool false]) (by simp [results, Tryd.results15, go_sem, *]) rfl ⟨rfl, ?_⟩
  exact HB1.out

theorem specNatSub_yes (s t : ByteArray) (w : World) (hs : s.size ≤ maxLen) (ht : t.size ≤ maxLen) (ha : natOk (bs s) = true) (hb : natOk (bs t) = true) (hle : val (bs t) ≤ val (bs s)) :
    Calls Tryd.prog 15 #[.string s, .string t] w fun e w' => e = .returned (.tuple #[.string (ofL (dec (val (bs s) - val (bs t)))), .bool true]) ∧ Below w.heap.size w w' := by
  obtain ⟨c1, l1⟩ := natOk_canon ha
  obtain ⟨c2, l2⟩ := natOk_canon hb
  rw [bs_length] at l1 l2
  have HC := Lib.hid (And.intro c1 c2)
  clear c1 c2
  go_enter Tryd.func15, Tryd.ntmps15
  go_wp2_with fail
  refine (specNatOk_any _ _ hs).mono ?_
  rintro e w1 ⟨rfl, hw1⟩
  obtain rfl : w = w1 := hw1
  go_wp2_with fail
  refine (specNatOk_any _ _ ht).mono ?_
  rintro e w1 ⟨rfl, hw1⟩
  obtain rfl : w = w1 := hw1
  go_wp2_with fail
  refine (l02Cmp_any s t _ HC.out.1.dig HC.out.2.dig (by omega) (by omega)).mono ?_
  rintro e w1 ⟨rfl, hb1⟩
  have HB1 := Lib.hid (show Below w.heap.size w w1 from (by rw [hb1]; exact Below.refl _ _))
  clear hb1
  have hc : 0 ≤ cmpN (val (bs s)) (val (bs t)) := by unfold cmpN; split <;> first | omega | (split <;> omega)
  have HLE := Lib.hid hle
  clear hle
  generalize cmpN (val (bs s)) (val (bs t)) = z at hc ⊢
  go_wp2_with fail
  refine (l02Sub_any s t _ HC.out.1.dig HC.out.2.dig (by omega) (by omega) HLE.out).mono ?_
  rintro e w2 ⟨rfl, hb2⟩
  have HB2 := Lib.hid (HB1.out.trans (hb2.mono HB1.out.size))
  clear hb2
  go_wp2
  refine bodyPost_ret (v := .tuple #[.string (ofL (dec (val (bs s) - val (bs t)))), .bool true]) (by simp [results, Tryd.results15, go_sem, *]) rfl ⟨rfl, ?_⟩
  exact HB2.out

theorem implNatSub_no (s t : ByteArray) (w : World) (hs : s.size ≤ maxLen) (ht : t.size ≤ maxLen) (h : natOk (bs s) = false ∨ natOk (bs t) = false) :
    Calls Tryd.prog 16 #[.string s, .string t] w fun e w' => e = .returned (.tuple #[.string ⟨#[]⟩, .bool false]) ∧ Below w.heap.size w w' := by
  cases ha : natOk (bs s)
  · go_enter Tryd.func16, Tryd.ntmps16
    go_wp2_with fail
    refine (isNat_any _ _ hs).mono ?_
    rintro e w1 ⟨rfl, rfl⟩
    go_wp2
    refine bodyPost_ret (v := .tuple #[.string ⟨#[]⟩, .bool false]) (by simp [results, Tryd.results16, go_sem, *]) rfl ⟨rfl, ?_⟩
    exact Below.refl _ _
  · have hb : natOk (bs t) = false := by simpa [ha] using h
    go_enter Tryd.func16, Tryd.ntmps16
    go_wp2_with fail
    refine (isNat_any _ _ hs).mono ?_
    rintro e w1 ⟨rfl, hw1⟩
    obtain rfl : w = w1 := hw1
    go_wp2_with fail
    refine (isNat_any _ _ ht).mono ?_
    rintro e w1 ⟨rfl, rfl⟩
    go_wp2
    refine bodyPost_ret (v := .tuple #[.string ⟨#[]⟩, .bool false]) (by simp [results, Tryd.results16, go_sem, *]) rfl ⟨rfl, ?_⟩
    exact Below.refl _ _

theorem implNatSub_less (s t : ByteArray) (w : World) (hs : s.size ≤ maxLen) (ht : t.size ≤ maxLen) (ha : natOk (bs s) = true) (hb : natOk (bs t) = true) (hlt : val (bs s) < val (bs t)) :
    Calls Tryd.prog 16 #[.string s, .string t] w fun e w' => e = .returned (.tuple #[.string ⟨#[]⟩, .bool false]) ∧ Below w.heap.size w w' := by
  obtain ⟨c1, l1⟩ := natOk_canon ha
  obtain ⟨c2, l2⟩ := natOk_canon hb
  rw [bs_length] at l1 l2
  have HC := Lib.hid (And.intro c1 c2)
  clear c1 c2
  go_enter Tryd.func16, Tryd.ntmps16
  go_wp2_with fail
  refine (isNat_any _ _ hs).mono ?_
  rintro e w1 ⟨rfl, hw1⟩
  obtain rfl : w = w1 := hw1
  go_wp2_with fail
  refine (isNat_any _ _ ht).mono ?_
  rintro e w1 ⟨rfl, hw1⟩
  obtain rfl : w = w1 := hw1
  go_wp2_with fail
  refine (natCmp_any s t _ HC.out.1 HC.out.2 (by omega) (by omega)).mono ?_
  rintro e w1 ⟨rfl, hb1⟩
  have HB1 := Lib.hid (show Below w.heap.size w w1 from hb1)
  clear hb1
  have hc : cmpN (val (bs s)) (val (bs t)) = -1 := by unfold cmpN; rw [if_pos hlt]
  rw [hc]
  clear hc hlt
  go_wp2
  refine bodyPost_ret (v := .tuple #[.string ⟨#[]⟩, .bool false]) (by simp [results, Tryd.results16, go_sem, *]) rfl ⟨rfl, ?_⟩
  exact HB1.out

theorem implNatSub_yes (s t : ByteArray) (w : World) (hs : s.size ≤ maxLen) (ht : t.size ≤ maxLen) (ha : natOk (bs s) = true) (hb : natOk (bs t) = true) (hle : val (bs t) ≤ val (bs s)) :
    Calls Tryd.prog 16 #[.string s, .string t] w fun e w' => e = .returned (.tuple #[.string (ofL (dec (val (bs s) - val (bs t)))), .bool true]) ∧ Below w.heap.size w w' := by
  obtain ⟨c1, l1⟩ := natOk_canon ha
  obtain ⟨c2, l2⟩ := natOk_canon hb
  rw [bs_length] at l1 l2
  have HC := Lib.hid (And.intro c1 c2)
  clear c1 c2
  go_enter Tryd.func16, Tryd.ntmps16
  go_wp2_with fail
  refine (isNat_any _ _ hs).mono ?_
  rintro e w1 ⟨rfl, hw1⟩
  obtain rfl : w = w1 := hw1
  go_wp2_with fail
  refine (isNat_any _ _ ht).mono ?_
  rintro e w1 ⟨rfl, hw1⟩
  obtain rfl : w = w1 := hw1
  go_wp2_with fail
  refine (natCmp_any s t _ HC.out.1 HC.out.2 (by omega) (by omega)).mono ?_
  rintro e w1 ⟨rfl, hb1⟩
  have HB1 := Lib.hid (show Below w.heap.size w w1 from hb1)
  clear hb1
  have hc : 0 ≤ cmpN (val (bs s)) (val (bs t)) := by unfold cmpN; split <;> first | omega | (split <;> omega)
  have HLE := Lib.hid hle
  clear hle
  generalize cmpN (val (bs s)) (val (bs t)) = z at hc ⊢
  go_wp2_with fail
  refine (natSub_any s t _ HC.out.1.dig HC.out.2.dig (by omega) (by omega) HLE.out).mono ?_
  rintro e w2 ⟨rfl, hb2⟩
  have HB2 := Lib.hid (HB1.out.trans (hb2.mono HB1.out.size))
  clear hb2
  go_wp2
  refine bodyPost_ret (v := .tuple #[.string (ofL (dec (val (bs s) - val (bs t)))), .bool true]) (by simp [results, Tryd.results16, go_sem, *]) rfl ⟨rfl, ?_⟩
  exact HB2.out

theorem fnExactNatSub_law (s t u : ByteArray) (b : Bool) (w : World) (hb1 : s.size ≤ 1048576) (hb2 : t.size ≤ 1048576)
    (hA : ∀ w, Calls Tryd.prog 15 #[.string s, .string t] w fun e w' => e = .returned (.tuple #[.string u, .bool b]) ∧ Below w.heap.size w w')
    (hB : ∀ w, Calls Tryd.prog 16 #[.string s, .string t] w fun e w' => e = .returned (.tuple #[.string u, .bool b]) ∧ Below w.heap.size w w') :
    Calls Tryd.prog 5 #[.string s, .string t] w fun e w' => e = .returned (.bool true) ∧ Below w.heap.size w w' := by
  have HA := Lib.hid hA
  have HB := Lib.hid hB
  clear hA hB
  go_enter Tryd.func5, Tryd.ntmps5
  go_wp2_with fail
  refine (HA.out _).mono ?_
  rintro e w1 ⟨rfl, hb1⟩
  have HB1 := Lib.hid hb1
  clear hb1
  go_wp2_with fail
  refine (HB.out _).mono ?_
  rintro e w2 ⟨rfl, hb2⟩
  have HB2 := Lib.hid (HB1.out.trans (hb2.mono HB1.out.size))
  clear hb2
  have hne2 : (b != b) = false := by simp
  go_wp2
  go_ret
  exact ⟨rfl, HB2.out⟩

theorem fnExactNatSub_walk (s : ByteArray) (hs : s.size ≤ maxLen) (t : ByteArray) (ht : t.size ≤ maxLen) (w : World) :
    Calls Tryd.prog 5 #[.string s, .string t] w fun e w' => e = .returned (.bool true) ∧ Below w.heap.size w w' := by
  have hs' := hs
  have ht' := ht
  unfold maxLen at hs' ht'
  by_cases hb : 1048576 < s.size
  · go_enter Tryd.func5, Tryd.ntmps5
    go_wp2
    go_ret
    exact ⟨rfl, Below.refl _ _⟩
  · by_cases hb' : 1048576 < t.size
    · go_enter Tryd.func5, Tryd.ntmps5
      go_wp2
      go_ret
      exact ⟨rfl, Below.refl _ _⟩
    · by_cases h : natOk (bs s) = false ∨ natOk (bs t) = false
      · exact fnExactNatSub_law s t _ _ w (by omega) (by omega) (fun w => specNatSub_no s t w hs ht h) (fun w => implNatSub_no s t w hs ht h)
      · have h1 : natOk (bs s) = true := by cases e : natOk (bs s) with | true => rfl | false => exact absurd (.inl e) h
        have h2 : natOk (bs t) = true := by cases e : natOk (bs t) with | true => rfl | false => exact absurd (.inr e) h
        by_cases h3 : val (bs s) < val (bs t)
        · exact fnExactNatSub_law s t _ _ w (by omega) (by omega) (fun w => specNatSub_less s t w hs ht h1 h2 h3) (fun w => implNatSub_less s t w hs ht h1 h2 h3)
        · exact fnExactNatSub_law s t _ _ w (by omega) (by omega) (fun w => specNatSub_yes s t w hs ht h1 h2 (by omega)) (fun w => implNatSub_yes s t w hs ht h1 h2 (by omega))
end Go.Proofs.YtbaldkpkloohkaaDoor

/-
  The walk of FnExactNatRound, out of the contracts. No condition.
-/
import Derived.Test.YtbaldkpkloohkaaDoorNatRoundS
import Derived.Test.YtbaldkpkloohkaaDoorFits
import Derived.Test.YtbaldkpkloohkaaDoorBetw
namespace Go.Proofs.YtbaldkpkloohkaaDoor
open Go.RowKit
set_option linter.unusedVariables false
set_option linter.unusedSimpArgs false

theorem specNatRound_no (s : ByteArray) (x : Int) (w : World) (hs : s.size ≤ maxLen) (h : natOk (bs s) = false ∨ betw x 0 600 = false) :
    Calls Tryd.prog 19 #[.string s, .int .i64 x] w fun e w' => e = .returned (.tuple #[.string ⟨#[]⟩, .bool false]) ∧ Below w.heap.size w w' := by
  cases ha : natOk (bs s)
  · go_enter Tryd.func19, Tryd.ntmps19
    go_wp2_with fail
    refine (specNatOk_any _ _ hs).mono ?_
    rintro e w1 ⟨rfl, hw1⟩
    obtain rfl : w = w1 := hw1
    go_wp2
    refine bodyPost_ret (v := .tuple #[.string ⟨#[]⟩, .bool false]) (by simp [results, Tryd.results19, go_sem, *]) rfl ⟨rfl, ?_⟩
    exact Below.refl _ _
  · have hb : betw x 0 600 = false := by simpa [ha] using h
    go_enter Tryd.func19, Tryd.ntmps19
    go_wp2_with fail
    refine (specNatOk_any _ _ hs).mono ?_
    rintro e w1 ⟨rfl, hw1⟩
    obtain rfl : w = w1 := hw1
    go_wp2_with fail
    refine (l01Between_any _ _ _ _).mono ?_
    rintro e w1 ⟨rfl, hw1⟩
    obtain rfl : w = w1 := hw1.symm
    clear hw1
    rw [hb]
    go_wp2
    refine bodyPost_ret (v := .tuple #[.string ⟨#[]⟩, .bool false]) (by simp [results, Tryd.results19, go_sem, *]) rfl ⟨rfl, ?_⟩
    exact Below.refl _ _

theorem specNatRound_yes (s : ByteArray) (n : Nat) (w : World) (hs : s.size ≤ maxLen) (ha : natOk (bs s) = true) (hb : betw (n : Int) 0 600 = true) (hn : n ≤ 600) :
    Calls Tryd.prog 19 #[.string s, .int .i64 (n : Int)] w fun e w' => e = .returned (.tuple #[.string (fitS (dec (roundV (val (bs s)) n))), .bool (fitB (dec (roundV (val (bs s)) n)))]) ∧ Below w.heap.size w w' := by
  obtain ⟨c1, l1⟩ := natOk_canon ha
  rw [bs_length] at l1
  have HC := Lib.hid c1
  clear c1
  go_enter Tryd.func19, Tryd.ntmps19
  go_wp2_with fail
  refine (specNatOk_any _ _ hs).mono ?_
  rintro e w1 ⟨rfl, hw1⟩
  obtain rfl : w = w1 := hw1
  go_wp2_with fail
  refine (l01Between_any _ _ _ _).mono ?_
  rintro e w1 ⟨rfl, hw1⟩
  obtain rfl : w = w1 := hw1.symm
  clear hw1
  rw [hb]
  go_wp2_with fail
  refine (l02Round_any s n _ HC.out.dig (by omega) (by omega)).mono ?_
  rintro e w2 ⟨rfl, hb2⟩
  have HB2 := Lib.hid hb2
  clear hb2
  go_wp2_with fail
  refine (l02Fits_any _ _).mono ?_
  rintro e w3 ⟨rfl, hb3⟩
  have HB3 := Lib.hid (HB2.out.trans (hb3.mono HB2.out.size))
  clear hb3
  go_wp2
  refine bodyPost_ret (v := .tuple #[.string (fitS (dec (roundV (val (bs s)) n))), .bool (fitB (dec (roundV (val (bs s)) n)))]) (by simp [results, Tryd.results19, go_sem, *]) rfl ⟨rfl, ?_⟩
  exact HB3.out

theorem implNatRound_no (s : ByteArray) (x : Int) (w : World) (hs : s.size ≤ maxLen) (h : natOk (bs s) = false ∨ betw x 0 600 = false) :
    Calls Tryd.prog 20 #[.string s, .int .i64 x] w fun e w' => e = .returned (.tuple #[.string ⟨#[]⟩, .bool false]) ∧ Below w.heap.size w w' := by
  cases ha : natOk (bs s)
  · go_enter Tryd.func20, Tryd.ntmps20
    go_wp2_with fail
    refine (isNat_any _ _ hs).mono ?_
    rintro e w1 ⟨rfl, hw1⟩
    obtain rfl : w = w1 := hw1
    go_wp2
    refine bodyPost_ret (v := .tuple #[.string ⟨#[]⟩, .bool false]) (by simp [results, Tryd.results20, go_sem, *]) rfl ⟨rfl, ?_⟩
    exact Below.refl _ _
  · have hb : betw x 0 600 = false := by simpa [ha] using h
    go_enter Tryd.func20, Tryd.ntmps20
    go_wp2_with fail
    refine (isNat_any _ _ hs).mono ?_
    rintro e w1 ⟨rfl, hw1⟩
    obtain rfl : w = w1 := hw1
    go_wp2_with fail
    refine (within_any _ _ _ _).mono ?_
    rintro e w1 ⟨rfl, hw1⟩
    obtain rfl : w = w1 := hw1.symm
    clear hw1
    rw [hb]
    go_wp2
    refine bodyPost_ret (v := .tuple #[.string ⟨#[]⟩, .bool false]) (by simp [results, Tryd.results20, go_sem, *]) rfl ⟨rfl, ?_⟩
    exact Below.refl _ _

theorem implNatRound_yes (s : ByteArray) (n : Nat) (w : World) (hs : s.size ≤ maxLen) (ha : natOk (bs s) = true) (hb : betw (n : Int) 0 600 = true) (hn : n ≤ 600) :
    Calls Tryd.prog 20 #[.string s, .int .i64 (n : Int)] w fun e w' => e = .returned (.tuple #[.string (fitS (dec (roundV (val (bs s)) n))), .bool (fitB (dec (roundV (val (bs s)) n)))]) ∧ Below w.heap.size w w' := by
  obtain ⟨c1, l1⟩ := natOk_canon ha
  rw [bs_length] at l1
  have HC := Lib.hid c1
  clear c1
  go_enter Tryd.func20, Tryd.ntmps20
  go_wp2_with fail
  refine (isNat_any _ _ hs).mono ?_
  rintro e w1 ⟨rfl, hw1⟩
  obtain rfl : w = w1 := hw1
  go_wp2_with fail
  refine (within_any _ _ _ _).mono ?_
  rintro e w1 ⟨rfl, hw1⟩
  obtain rfl : w = w1 := hw1.symm
  clear hw1
  rw [hb]
  go_wp2_with fail
  refine (natRound_any s n _ HC.out (by omega) (by omega)).mono ?_
  rintro e w2 ⟨rfl, hb2⟩
  have HB2 := Lib.hid hb2
  clear hb2
  go_wp2_with fail
  refine (checkedNat_any _ _).mono ?_
  rintro e w3 ⟨rfl, hb3⟩
  have HB3 := Lib.hid (HB2.out.trans (hb3.mono HB2.out.size))
  clear hb3
  go_wp2
  refine bodyPost_ret (v := .tuple #[.string (fitS (dec (roundV (val (bs s)) n))), .bool (fitB (dec (roundV (val (bs s)) n)))]) (by simp [results, Tryd.results20, go_sem, *]) rfl ⟨rfl, ?_⟩
  exact HB3.out

theorem fnExactNatRound_law (s u : ByteArray) (x : Int) (b : Bool) (w : World) (hb1 : s.size ≤ 1048576)
    (hA : ∀ w, Calls Tryd.prog 19 #[.string s, .int .i64 x] w fun e w' => e = .returned (.tuple #[.string u, .bool b]) ∧ Below w.heap.size w w')
    (hB : ∀ w, Calls Tryd.prog 20 #[.string s, .int .i64 x] w fun e w' => e = .returned (.tuple #[.string u, .bool b]) ∧ Below w.heap.size w w') :
    Calls Tryd.prog 7 #[.string s, .int .i64 x] w fun e w' => e = .returned (.bool true) ∧ Below w.heap.size w w' := by
  have HA := Lib.hid hA
  have HB := Lib.hid hB
  clear hA hB
  go_enter Tryd.func7, Tryd.ntmps7
  go_wp2_with fail
  refine (HA.out _).mono ?_
  rintro e w1 ⟨rfl, hb1⟩
  have HB1 := Lib.hid hb1
  clear hb1
  go_wp2_with fail
  refine (HB.out _).mono ?_
  rintro e w2 ⟨rfl, hb2⟩
  have HB2 := Lib.hid (HB1.out.trans (hb2.mono HB1.out.size))
  clear hb2
  have hne2 : (b != b) = false := by simp
  go_wp2
  go_ret
  exact ⟨rfl, HB2.out⟩

theorem fnExactNatRound_walk (s : ByteArray) (hs : s.size ≤ maxLen) (x : Int) (hx : (Lit.int .i64 x).wf = true) (w : World) :
    Calls Tryd.prog 7 #[.string s, .int .i64 x] w fun e w' => e = .returned (.bool true) ∧ Below w.heap.size w w' := by
  have hs' := hs
  unfold maxLen at hs'
  by_cases hb : 1048576 < s.size
  · go_enter Tryd.func7, Tryd.ntmps7
    go_wp2
    go_ret
    exact ⟨rfl, Below.refl _ _⟩
  · by_cases h : natOk (bs s) = false ∨ betw x 0 600 = false
    · exact fnExactNatRound_law s _ x _ w (by omega) (fun w => specNatRound_no s x w hs h) (fun w => implNatRound_no s x w hs h)
    · have h1 : natOk (bs s) = true := by cases e : natOk (bs s) with | true => rfl | false => exact absurd (.inl e) h
      have h2 : betw x 0 600 = true := by cases e : betw x 0 600 with | true => rfl | false => exact absurd (.inr e) h
      obtain ⟨n, rfl, hn⟩ := betw_nat h2
      exact fnExactNatRound_law s _ _ _ w (by omega) (fun w => specNatRound_yes s n w hs h1 h2 hn) (fun w => implNatRound_yes s n w hs h1 h2 hn)

end Go.Proofs.YtbaldkpkloohkaaDoor

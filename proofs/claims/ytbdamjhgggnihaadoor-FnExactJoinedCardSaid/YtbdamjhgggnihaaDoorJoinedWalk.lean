/-
  The walk of FnExactJoined, out of the contracts. Condition: the tables of unicode utf8 stand in memory, as the card ties them.
-/
import Derived.Test.YtbdamjhgggnihaaDoorJoined
namespace Go.Proofs.YtbdamjhgggnihaaDoor
open Go.RowKit
set_option linter.unusedVariables false
set_option linter.unusedSimpArgs false

theorem fnExactJoined_any (w : World) (hT : Tabs w) (a : Option Addr) (cap : Nat) (l : List ByteArray) (h : RowS w a l) (hm : l.length ≤ maxLen) (hsz : ∀ s ∈ l, s.size ≤ maxLen) (sep : ByteArray) (hs : sep.size ≤ maxLen) :
    Calls Tryd.prog 11 #[.slice a l.length cap, .string sep] w fun e w' => e = .returned (.bool true) ∧ Below w.heap.size w w' := by
  unfold maxLen at hm hsz hs
  have HT := Lib.hid hT
  have HR := Lib.hid h
  have HSZ := Lib.hid hsz
  clear hT h hsz
  by_cases hb : 1048576 < sep.size
  · go_enter Tryd.func11, Tryd.ntmps11
    go_wp2
    go_ret
    exact ⟨rfl, Below.refl _ _⟩
  · have hsep : sep.size ≤ 1048576 := by omega
    go_enter Tryd.func11, Tryd.ntmps11
    go_wp2_with fail
    refine (szStringS_any a cap l _ HR.out (by omega) HSZ.out).mono ?_
    rintro e w0 ⟨v, rfl, hv, hv1, hv2, hb0⟩
    have HB0 := Lib.hid hb0
    have HV := Lib.hid hv
    clear hb0 hv
    by_cases hneg : v < 0
    · go_wp2
      go_ret
      exact ⟨rfl, HB0.out⟩
    · obtain ⟨hl, hsm⟩ := HV.out (by omega)
      have HSM := Lib.hid hsm
      clear hsm
      go_wp2_with fail
      refine (toStringS_any _ _ _ _ (HR.out.below HB0.out) hl).mono ?_
      rintro e w1 ⟨g1, rfl, hg1, hr1, hb1⟩
      have HR1 := Lib.hid hr1
      have HB1 := Lib.hid (HB0.out.trans (hb1.mono HB0.out.size))
      clear hr1 hb1
      go_wp2_with fail
      refine (specJoined_any _ _ l sep _ HR1.out hl HSM.out hsep).mono ?_
      rintro e w2 ⟨rfl, hb2⟩
      have HB2 := Lib.hid (HB1.out.trans (hb2.mono HB1.out.size))
      clear hb2
      go_wp2_with fail
      refine (toStringS_any _ _ _ _ (HR.out.below HB2.out) hl).mono ?_
      rintro e w3 ⟨g3, rfl, hg3, hr3, hb3⟩
      have HR3 := Lib.hid hr3
      have HB3 := Lib.hid (HB2.out.trans (hb3.mono HB2.out.size))
      clear hr3 hb3
      go_wp2_with fail
      refine (implJoined_any _ _ l sep _ HR3.out (Nat.le_refl _) hl HSM.out hsep (HT.out.below HB3.out)).mono ?_
      rintro e w4 ⟨rfl, hb4⟩
      have HB4 := Lib.hid (HB3.out.trans (hb4.mono HB3.out.size))
      have HR4 := Lib.hid (HR3.out.below hb4)
      clear hb4
      have hnb : (jOk l (bs sep) != jOk l (bs sep)) = false := by simp
      go_wp2_with fail
      refine (toStringS_any _ _ _ _ (HR.out.below HB4.out) hl).mono ?_
      rintro e w5 ⟨g5, rfl, hg5, hr5, hb5⟩
      have HR5 := Lib.hid hr5
      have HB5 := Lib.hid (HB4.out.trans (hb5.mono HB4.out.size))
      have HR4' := Lib.hid (HR4.out.below hb5)
      clear hr5 hb5
      go_wp2_with fail
      refine (eqStringS_same _ _ _ _ _ _ HR4'.out HR5.out (by omega)).mono ?_
      rintro e w6 ⟨rfl, hb6⟩
      have HB6 := Lib.hid (HB5.out.trans (hb6.mono HB5.out.size))
      clear hb6
      go_wp2_with fail
      go_ret
      exact ⟨rfl, HB6.out⟩

theorem fnExactJoined_walk (w : World) (hT : Tabs w) (a : Option Addr) (len cap : Nat) (ss : List ByteArray) (hr : IsStrs w a len cap ss) (sep : ByteArray) (hs : sep.size ≤ maxLen) :
    Calls Tryd.prog 11 #[.slice a len cap, .string sep] w fun e w' => e = .returned (.bool true) ∧ Below w.heap.size w w' := by
  obtain ⟨h1, h2, h3, h4⟩ := isStrs_row hr
  have := fnExactJoined_any w hT a cap (ss.take len) h1 (by rw [h2]; exact h3) h4 sep hs
  rwa [h2] at this
end Go.Proofs.YtbdamjhgggnihaaDoor

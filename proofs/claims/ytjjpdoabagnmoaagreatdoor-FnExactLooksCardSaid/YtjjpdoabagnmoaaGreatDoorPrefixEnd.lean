/-
  The contracts of PrefixEnd, both sides'. Conditions: a string no longer than 2 to the 40; for the program's the tables of unicode utf8 stand in memory.
-/
import Derived.Test.YtjjpdoabagnmoaaGreatDoorBlank
import Derived.Test.YtjjpdoabagnmoaaGreatDoorTextOk
namespace Go.Proofs.YtjjpdoabagnmoaaGreatDoor
open Go.RowKit
set_option linter.unusedVariables false
set_option linter.unusedSimpArgs false

/-- where the number ahead ends; -1 where the text is none -/
def preE (l : List UInt8) : Int := if okT l = true then (if scanN (l.drop (blN l)) = 0 then 0 else ((blN l + scanN (l.drop (blN l)) : Nat) : Int)) else -1
theorem specPrefixEnd_any (s : ByteArray) (w : World) (hs : s.size ≤ 1099511627776) :
    Calls Tryz.prog 28 #[.string s] w fun e w' => e = .returned (.int .i64 (preE (bs s))) ∧ Below w.heap.size w w' := by
  obtain ⟨A, hA⟩ : ∃ A, blN (bs s) = A := ⟨_, rfl⟩
  obtain ⟨N, hN⟩ : ∃ N, scanN ((bs s).drop A) = N := ⟨_, rfl⟩
  have hle := blN_le (bs s)
  have hle2 := scanN_le ((bs s).drop A)
  rw [List.length_drop] at hle2
  rw [bs_length, hA] at hle
  rw [bs_length, hN] at hle2
  unfold preE
  rw [hA, hN]
  cases hk : okT (bs s)
  · rw [if_neg (by decide)]
    go_enter Tryz.func28, Tryz.ntmps28
    go_wp2_with (go_at_call 56; refine (specTextOk_any _ _ hs).mono ?_; rintro e w1 ⟨rfl, hb1⟩; rw [hk])
    go_ret
    exact ⟨rfl, hb1⟩
  · rw [if_pos rfl]
    by_cases h0 : N = 0
    · rw [if_pos h0]
      have hx : ((A : Int) == (A : Int)) = true := beq_self_eq_true _
      go_enter Tryz.func28, Tryz.ntmps28
      go_wp2_with (first | (go_at_call 56; refine (specTextOk_any _ _ hs).mono ?_; rintro e w1 ⟨rfl, hb1⟩; rw [hk]) | (go_at_call 30; refine (l04Start_to _ A _ hs hA).mono ?_; rintro e w2 ⟨rfl, rfl⟩) | (go_at_call 57; refine (l03Scan_to _ _ A A _ rfl hs hle (by rw [hN, h0]; rfl)).mono ?_; rintro e w3 ⟨rfl, rfl⟩))
      go_ret
      exact ⟨rfl, hb1⟩
    · rw [if_neg h0]
      obtain ⟨K, hK⟩ : ∃ K, A + N = K := ⟨_, rfl⟩
      rw [hK]
      have hx : ((K : Int) == (A : Int)) = false := beq_eq_false_iff_ne.2 (by omega)
      go_enter Tryz.func28, Tryz.ntmps28
      go_wp2_with (first | (go_at_call 56; refine (specTextOk_any _ _ hs).mono ?_; rintro e w1 ⟨rfl, hb1⟩; rw [hk]) | (go_at_call 30; refine (l04Start_to _ A _ hs hA).mono ?_; rintro e w2 ⟨rfl, rfl⟩) | (go_at_call 57; refine (l03Scan_to _ _ A K _ rfl hs hle (by rw [hN, hK])).mono ?_; rintro e w3 ⟨rfl, rfl⟩))
      go_ret
      exact ⟨rfl, hb1⟩
theorem implPrefixEnd_any (s : ByteArray) (w : World) (hs : s.size ≤ 1099511627776) (hT : Tabs w) :
    Calls Tryz.prog 33 #[.string s] w fun e w' => e = .returned (.int .i64 (preE (bs s))) ∧ Below w.heap.size w w' := by
  obtain ⟨A, hA⟩ : ∃ A, blN (bs s) = A := ⟨_, rfl⟩
  obtain ⟨N, hN⟩ : ∃ N, scanN ((bs s).drop A) = N := ⟨_, rfl⟩
  have hle := blN_le (bs s)
  have hle2 := scanN_le ((bs s).drop A)
  rw [List.length_drop] at hle2
  rw [bs_length, hA] at hle
  rw [bs_length, hN] at hle2
  unfold preE
  rw [hA, hN]
  have hTs := size_ofL ((bs s).drop A)
  rw [List.length_drop, bs_length] at hTs
  obtain ⟨T, hT0⟩ : ∃ T, ofL ((bs s).drop A) = T := ⟨_, rfl⟩
  rw [hT0] at hTs
  have HTR := Lib.hid (show (bs s).drop (blN (bs s)) = bs T by rw [hA, ← hT0, bs_ofL])
  have HTN := Lib.hid (show scanN (bs T) = N by rw [← hT0, bs_ofL, hN])
  have hT2 : T.size ≤ 1099511627776 := by omega
  have HTS := Lib.hid hTs
  clear hT0 hTs hA hN
  cases hk : okT (bs s)
  · rw [if_neg (by decide)]
    go_enter Tryz.func33, Tryz.ntmps33
    go_wp2_with (go_at_call 60; refine (implTextOk_any _ _ hs hT).mono ?_; rintro e w1 ⟨rfl, hb1⟩; rw [hk])
    go_ret
    exact ⟨rfl, hb1⟩
  · rw [if_pos rfl]
    by_cases h0 : N = 0
    · rw [if_pos h0]
      subst h0
      go_enter Tryz.func33, Tryz.ntmps33
      go_wp2_with (first | (go_at_call 60; refine (implTextOk_any _ _ hs hT).mono ?_; rintro e w1 ⟨rfl, hb1⟩; rw [hk]) | (go_at_call 34; refine (trimBlanks_to s T _ HTR.out).mono ?_; rintro e w2 ⟨rfl, hb2⟩) | (go_at_call 43; refine (decEnd_to' T 0 _ hT2 HTN.out).mono ?_; rintro e w3 ⟨rfl, rfl⟩))
      go_ret
      exact ⟨rfl, hb1.trans (hb2.mono hb1.size)⟩
    · rw [if_neg h0]
      have hx : ((N : Int) == 0) = false := beq_eq_false_iff_ne.2 (by omega)
      go_enter Tryz.func33, Tryz.ntmps33
      go_wp2_with (first | (go_at_call 60; refine (implTextOk_any _ _ hs hT).mono ?_; rintro e w1 ⟨rfl, hb1⟩; rw [hk]) | (go_at_call 34; refine (trimBlanks_to s T _ HTR.out).mono ?_; rintro e w2 ⟨rfl, hb2⟩) | (go_at_call 43; refine (decEnd_to' T N _ hT2 HTN.out).mono ?_; rintro e w3 ⟨rfl, rfl⟩))
      go_ret
      refine ⟨ret_int ?_, hb1.trans (hb2.mono hb1.size)⟩
      have := HTS.out
      omega
end Go.Proofs.YtjjpdoabagnmoaaGreatDoor

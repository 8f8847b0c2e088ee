/-
  The contracts of NatOk, the reference's and the program's: each answers natOk. No condition.
-/
import Derived.Test.YtjjpdoabagnmoaaDoorText
import Derived.WalkLawsBesides
import Derived.WalkSpells
import Derived.BigQuiet
import Derived.Deep.Light
import Derived.Deep.QuietTactic
namespace Go.Proofs.YtjjpdoabagnmoaaDoor
open Go.RowKit
set_option linter.unusedVariables false
set_option linter.unusedSimpArgs false

theorem isNat_any (s : ByteArray) (w : World) (hs : s.size ≤ maxLen) :
    Calls Tryd.prog 68 #[.string s] w fun e w' => e = .returned (.bool (natOk (bs s))) ∧ w = w' := by
  unfold maxLen at hs
  go_enter Tryd.func68, Tryd.ntmps68
  go_wp2
  go_loop [6] (fun i => ∃ k : Nat, k ≤ s.size ∧ i = .int .i64 k ∧ ((bs s).take k).all isDig = true) (fun i => s.size - (intOf i).toNat)
  case atStart => exact ⟨0, Nat.zero_le _, rfl, rfl⟩
  case round =>
    obtain ⟨k, hk, rfl, hall⟩ := hrel
    have HA := Lib.hid hall
    clear hall
    by_cases hlt : k < s.size
    · go_wp2
      all_goals first
        | (go_round
           case rel =>
             refine ⟨k + 1, by omega, by go_num, ?_⟩
             rw [take_snoc s k hlt, List.all_append, HA.out]
             simp [isDig]; omega
           case measure => simp [intOf]; omega)
        | (go_ret
           refine ⟨ret_bool ?_, rfl⟩
           symm
           unfold natOk
           rw [all_no (bs_mem s k hlt) (isDig_no (by omega))]; rfl)
    · obtain rfl : k = s.size := by omega
      go_wp2
      all_goals go_ret
      all_goals refine ⟨ret_bool ?_, rfl⟩
      all_goals have ha := HA.out
      all_goals rw [take_all] at ha
      all_goals first
        | (rw [natOk_big (by rw [bs_length]; omega)]; done)
        | (rw [natOk_empty (by rw [bs_length]; omega)]; done)
        | (obtain ⟨l, hl⟩ := bs_cons s (by omega)
           have hn : (bs s).length ≤ 600 := by rw [bs_length]; omega
           rw [hl] at ha hn
           first
             | (rw [hl, natOk_nz ha hn (by assumption)]; done)
             | (rw [Lib.toList_data, show s.data.toList = bs s from rfl, hl, natOk_z ha hn (by assumption)]; done))

theorem specNatOk_no (s : ByteArray) (w : World) (hs : s.size ≤ maxLen) (h : s.size < 1 ∨ 600 < s.size ∨ (1 < s.size ∧ (bs s).head? = some 48)) :
    Calls Tryd.prog 35 #[.string s] w fun e w' => e = .returned (.bool false) ∧ w = w' := by
  unfold maxLen at hs
  have H := Lib.hid h
  have h1 : s.size < 1 ∨ 600 < s.size ∨ (1 ≤ s.size ∧ s.size ≤ 600) := by omega
  clear h
  rcases h1 with h | h | ⟨h, h'⟩
  · go_enter Tryd.func35, Tryd.ntmps35
    go_wp2
    go_ret
    exact ⟨rfl, rfl⟩
  · go_enter Tryd.func35, Tryd.ntmps35
    go_wp2
    go_ret
    exact ⟨rfl, rfl⟩
  · obtain ⟨h1, h0⟩ : 1 < s.size ∧ ((s[0].toNat : Int) == 48) = true := by
      have e := H.out
      rcases e with e | e | ⟨e, e'⟩
      · omega
      · omega
      · refine ⟨e, ?_⟩
        obtain ⟨l, hl⟩ := bs_cons s (by omega)
        rw [hl] at e'
        simp at e'
        rw [e']; rfl
    clear H
    go_enter Tryd.func35, Tryd.ntmps35
    go_wp2
    go_ret
    exact ⟨rfl, rfl⟩

theorem specNatOk_any (s : ByteArray) (w : World) (hs : s.size ≤ maxLen) :
    Calls Tryd.prog 35 #[.string s] w fun e w' => e = .returned (.bool (natOk (bs s))) ∧ w = w' := by
  by_cases hno : s.size < 1 ∨ 600 < s.size ∨ (1 < s.size ∧ (bs s).head? = some 48)
  · refine (specNatOk_no s w hs hno).mono ?_
    rintro e w' ⟨rfl, rfl⟩
    refine ⟨ret_bool ?_, rfl⟩
    symm
    rcases hno with h | h | ⟨h, h'⟩
    · exact natOk_empty (by rw [bs_length]; omega)
    · exact natOk_big (by rw [bs_length]; omega)
    · unfold natOk
      rw [h', bs_length, decide_eq_false (p := s.size = 1) (by omega)]; simp
  · have h1 : 1 ≤ s.size := by omega
    have h2 : s.size ≤ 600 := by omega
    have hyes : (bs s).all isDig = true → natOk (bs s) = true := by
      intro ha
      unfold natOk
      rw [ha, bs_length, decide_eq_true h1, decide_eq_true h2]
      by_cases e : s.size = 1
      · simp [e]
      · have : ¬ (bs s).head? = some 48 := fun e' => hno (.inr (.inr ⟨by omega, e'⟩))
        simp [this]
    have hz : s.size ≤ 1 ∨ (1 < s.size ∧ ((s[0].toNat : Int) == 48) = false) := by
      by_cases e : s.size ≤ 1
      · exact .inl e
      · refine .inr ⟨by omega, ?_⟩
        obtain ⟨l, hl⟩ := bs_cons s (by omega)
        rw [hl] at hno
        have : ¬ s[0] = 48 := fun e' => hno (.inr (.inr ⟨by omega, by simp [e']⟩))
        rw [beq_eq_false_iff_ne]
        intro e'
        exact this (UInt8.toNat_inj.1 (by have e : (48 : UInt8).toNat = 48 := rfl; omega))
    have HY := Lib.hid hyes
    clear hyes hno
    unfold maxLen at hs
    rcases hz with h | ⟨h, h0⟩
    all_goals
      go_enter Tryd.func35, Tryd.ntmps35
      go_wp2
      go_loop [3] (fun i => ∃ k : Nat, k ≤ s.size ∧ i = .int .i64 k ∧ ((bs s).take k).all isDig = true) (fun i => s.size - (intOf i).toNat)
      case atStart => exact ⟨0, Nat.zero_le _, rfl, rfl⟩
      case round =>
        obtain ⟨k, hk, rfl, hall⟩ := hrel
        have HA := Lib.hid hall
        clear hall
        by_cases hlt : k < s.size
        · have hw : wrap64 (s[k].toNat : Int) = (s[k].toNat : Int) := wrap64_u8 _
          rcases (by omega : (48 ≤ (s[k].toNat : Int) ∧ (s[k].toNat : Int) ≤ 57) ∨ (s[k].toNat : Int) < 48 ∨ 57 < (s[k].toNat : Int)) with ⟨hd, hd'⟩ | hd | hd
          · go_wp2
            go_round
            case rel =>
              refine ⟨k + 1, by omega, by go_num, ?_⟩
              rw [take_snoc s k hlt, List.all_append, HA.out]
              simp [isDig]; omega
            case measure => simp [intOf]; omega
          · go_wp2
            go_ret
            refine ⟨ret_bool ?_, rfl⟩
            symm
            unfold natOk
            rw [all_no (bs_mem s k hlt) (isDig_no (by omega))]; rfl
          · have hd2 : decide ((s[k].toNat : Int) ≤ 57) = false := decide_eq_false (by omega)
            go_wp2
            go_ret
            refine ⟨ret_bool ?_, rfl⟩
            symm
            unfold natOk
            rw [all_no (bs_mem s k hlt) (isDig_no (by omega))]; rfl
        · obtain rfl : k = s.size := by omega
          go_wp2
          go_ret
          refine ⟨ret_bool ?_, rfl⟩
          have ha := HA.out
          rw [take_all] at ha
          exact (HY.out ha).symm


end Go.Proofs.YtjjpdoabagnmoaaDoor

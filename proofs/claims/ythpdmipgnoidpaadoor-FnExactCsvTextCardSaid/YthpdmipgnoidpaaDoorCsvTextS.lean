/-
  The contracts of the reference's l09Cell and CsvText. Conditions: bounds.
-/
import Derived.Test.YthpdmipgnoidpaaDoorRowTxt
import Derived.Test.YthpdmipgnoidpaaDoorTxtAny
import Derived.Test.YthpdmipgnoidpaaDoorOwns
import Derived.Test.YthpdmipgnoidpaaDoorFill
import Derived.Lib.AppendStr
namespace Go.Proofs.YthpdmipgnoidpaaDoor
open Go.RowKit
open Go.Lib hiding intOf
set_option linter.unusedVariables false
set_option linter.unusedSimpArgs false

theorem cut_one (s : ByteArray) (k : Nat) (h : k < s.size) : s.extract k (k + 1) = ofL [s[k]] := bs_inj (by
  have e2 : bs (s.extract k (k + 1)) = ((bs s).take (k + 1)).drop k := by
    show (s.extract k (k + 1)).data.toList = _
    rw [Lib.extract_data]; simp [bs, List.drop_take]
  rw [e2, take_snoc s k h, List.drop_append_of_le_length (by rw [List.length_take, bs_length]; omega), List.drop_eq_nil_of_le (by rw [List.length_take]; omega), bs_ofL]
  rfl)
theorem sp_cases (c : UInt8) (x : Int) (hx : x = (c.toNat : Int)) : (spB c = true ∧ c ≠ 34 ∧ (x == 34) = false ∧ ((x == 44) = true ∨ ((x == 44) = false ∧ (x == 10) = true) ∨ ((x == 44) = false ∧ (x == 10) = false ∧ (x == 13) = true))) ∨ (c = 34 ∧ spB c = true ∧ (x == 44) = false ∧ (x == 34) = true) ∨ (spB c = false ∧ c ≠ 34 ∧ (x == 44) = false ∧ (x == 34) = false ∧ (x == 10) = false ∧ (x == 13) = false) := by
  subst hx
  have key : ∀ d : UInt8, (((c.toNat : Int)) == (d.toNat : Int)) = (c == d) := fun d => by
    rw [Bool.eq_iff_iff, beq_iff_eq, beq_iff_eq]
    exact ⟨fun h => u8_eq h, fun h => by rw [h]⟩
  have k44 : ((c.toNat : Int) == 44) = (c == 44) := key 44
  have k34 : ((c.toNat : Int) == 34) = (c == 34) := key 34
  have k10 : ((c.toNat : Int) == 10) = (c == 10) := key 10
  have k13 : ((c.toNat : Int) == 13) = (c == 13) := key 13
  rw [k44, k34, k10, k13]
  unfold spB
  by_cases h34 : c = 34
  · subst h34; right; left; decide
  have e34 : (c == 34) = false := by rw [beq_eq_false_iff_ne]; exact h34
  cases e44 : c == 44 <;> cases e10 : c == 10 <;> cases e13 : c == 13 <;> simp [e34, h34]

set_option maxRecDepth 20000 in
set_option maxHeartbeats 2000000 in
theorem l09Cell_any (s : ByteArray) (w : World) (hs : s.size ≤ 1048576) :
    Calls Tryd.prog 58 #[.string s] w fun e w' => e = .returned (.string (ofL (cellC (bs s)))) ∧ w = w' := by
  go_enter Tryd.func58, Tryd.ntmps58
  go_wp2
  go_loop [3, 4, 5] (fun ov qv iv => ∃ k : Nat, k ≤ s.size ∧ iv = .int .i64 (k : Int) ∧ ov = .string (ofL (dblL ((bs s).take k))) ∧ qv = .bool (((bs s).take k).any spB)) (fun _ _ iv => s.size - (intOf iv).toNat)
  case atStart => exact ⟨0, Nat.zero_le _, rfl, rfl, rfl⟩
  case round =>
    obtain ⟨k, hk, rfl, rfl, rfl⟩ := hrel
    have hdz : (ofL (dblL ((bs s).take k))).size ≤ 2097152 := by
      rw [size_ofL]
      have h1 := dblL_len ((bs s).take k)
      rw [List.length_take, bs_length] at h1
      omega
    by_cases hlt : k < s.size
    · have hltI : (k : Int) < s.size := by omega
      have HT := Lib.hid (take_snoc s k hlt)
      have HC := Lib.hid (cut_one s k hlt)
      have hxz : (s.extract k (k + 1)).size ≤ 1 := by rw [ByteArray.size_extract]; omega
      have hsc := sp_cases s[k] (s[k].toNat : Int) rfl
      obtain ⟨q, hq⟩ : ∃ q, ((bs s).take k).any spB = q := ⟨_, rfl⟩
      obtain ⟨d, hd⟩ : ∃ d, dblL ((bs s).take k) = d := ⟨_, rfl⟩
      have HQN := Lib.hid (any_snoc ((bs s).take k) s[k])
      have HDN := Lib.hid (dblL_snoc ((bs s).take k) s[k])
      rw [hq] at HQN ⊢
      rw [hd] at HDN hdz ⊢
      clear hq hd
      rcases hsc with ⟨h1, h2, e34, h3⟩ | ⟨h1, h2, e44, e34⟩ | ⟨h1, h2, e44, e34, e10, e13⟩
      · have HX : Hid (ofL d ++ s.extract k (k + 1) = ofL (dblL ((bs s).take (k + 1)))) := Lib.hid (by rw [HT.out, HDN.out, if_neg h2, HC.out]; exact bs_inj (by simp [bs, ofL]))
        have HY : Hid (((bs s).take (k + 1)).any spB = true) := Lib.hid (by rw [HT.out, HQN.out, h1, Bool.or_true])
        clear h1 h2
        rcases h3 with e44 | ⟨e44, e10⟩ | ⟨e44, e10, e13⟩
        all_goals
          go_wp2
          rw [HX.out]
          go_round
          case rel => exact ⟨k + 1, by omega, by go_num, rfl, by rw [HY.out]⟩
          case measure => simp [intOf]; omega
      · have HX : Hid (ofL d ++ ⟨#[34]⟩ ++ s.extract k (k + 1) = ofL (dblL ((bs s).take (k + 1)))) := Lib.hid (by rw [HT.out, HDN.out, if_pos h1, HC.out, h1]; exact bs_inj (by simp [bs, ofL]))
        have HY : Hid (((bs s).take (k + 1)).any spB = true) := Lib.hid (by rw [HT.out, HQN.out, h2, Bool.or_true])
        clear h1 h2
        go_wp2
        rw [HX.out]
        go_round
        case rel => exact ⟨k + 1, by omega, by go_num, rfl, by rw [HY.out]⟩
        case measure => simp [intOf]; omega
      · have HX : Hid (ofL d ++ s.extract k (k + 1) = ofL (dblL ((bs s).take (k + 1)))) := Lib.hid (by rw [HT.out, HDN.out, if_neg h2, HC.out]; exact bs_inj (by simp [bs, ofL]))
        have HY : Hid (((bs s).take (k + 1)).any spB = q) := Lib.hid (by rw [HT.out, HQN.out, h1, Bool.or_false])
        clear h1 h2
        go_wp2
        rw [HX.out]
        go_round
        case rel => exact ⟨k + 1, by omega, by go_num, rfl, by rw [HY.out]⟩
        case measure => simp [intOf]; omega
    · obtain rfl : k = s.size := by omega
      rw [take_all] at hdz ⊢
      cases hq : (bs s).any spB
      · have HE : Hid (ofL (dblL (bs s)) = ofL (cellC (bs s))) := Lib.hid (by unfold cellC; rw [if_neg (by rw [hq]; simp), dblL_none (sp_none hq)])
        clear hq
        go_wp2
        go_ret
        rw [HE.out]
        exact ⟨rfl, rfl⟩
      · have HE : Hid (ByteArray.mk #[34] ++ ofL (dblL (bs s)) ++ ByteArray.mk #[34] = ofL (cellC (bs s))) := Lib.hid (by unfold cellC; rw [if_pos hq]; exact bs_inj (by simp [bs, ofL]))
        clear hq
        go_wp2
        go_ret
        rw [HE.out]
        exact ⟨rfl, rfl⟩
end Go.Proofs.YthpdmipgnoidpaaDoor

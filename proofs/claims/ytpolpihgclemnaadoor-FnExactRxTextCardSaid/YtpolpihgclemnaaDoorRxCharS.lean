/-
  The contract of the reference's l05Char. Conditions: the signs are ASCII, the number is a code point.
-/
import Derived.Test.YtpolpihgclemnaaDoorRxChar
import Derived.Test.YtpolpihgclemnaaDoorCased
namespace Go.Proofs.YtpolpihgclemnaaDoor
open Go.RowKit
open Go.Lib hiding intOf
set_option linter.unusedVariables false
set_option linter.unusedSimpArgs false

theorem cut1 (s : ByteArray) (k : Nat) (h : k < s.size) : s.extract k (k + 1) = ofL [s[k]] := bs_inj (by
  have e2 : bs (s.extract k (k + 1)) = ((bs s).take (k + 1)).drop k := by
    show (s.extract k (k + 1)).data.toList = _
    rw [Lib.extract_data]; simp [bs, List.drop_take]
  have hl : k < (bs s).length := by rw [bs_length]; exact h
  rw [e2, List.take_succ_eq_append_getElem hl, List.drop_append_of_le_length (by rw [List.length_take]; omega), List.drop_eq_nil_of_le (by rw [List.length_take]; omega), bs_ofL, bs_get s k h]
  rfl)
theorem ptBytes_asc (x : UInt8) (h : x.toNat < 128) : ptBytes x.toNat = [x] := by
  unfold ptBytes Lib.encodeRune
  rw [encodeRuneZ_one (by omega) (by omega)]
  have : ((x.toNat : Int)).toNat.toUInt8 = x := UInt8.toNat_inj.1 (by simp)
  simp [this]
theorem inS_no {c : Int} {S : ByteArray} (h : ∀ j, (hj : j < S.size) → ¬ (S[j].toNat : Int) = c) : inS c (bs S) = false := by
  unfold inS
  rw [List.any_eq_false]
  intro x hx
  obtain ⟨i, hi, e⟩ := List.getElem_of_mem hx
  rw [bs_length] at hi
  have := h i hi
  rw [bs_get S i hi] at e
  rw [e] at this
  simpa using this
theorem inS_yes {S : ByteArray} {j : Nat} (hj : j < S.size) {c : Int} (h : (S[j].toNat : Int) = c) : inS c (bs S) = true := by
  unfold inS
  rw [List.any_eq_true]
  refine ⟨S[j], ?_, by simpa using h⟩
  rw [← bs_get S j hj]
  exact List.getElem_mem _

set_option maxRecDepth 20000 in
theorem l05Char_any (c : Int) (S : ByteArray) (w : World) (hp : isPt c = true) (ha : Asc S) (hs : S.size ≤ 1000) :
    Calls Tryd.prog 12 #[.int .i64 c, .string S] w fun e w' => e = .returned (.string (ofL (chB c (bs S)))) ∧ Below w.heap.size w w' := by
  obtain ⟨v, hv⟩ : ∃ v, ofL (chB c (bs S)) = v := ⟨_, rfl⟩
  have HV := Lib.hid hv
  rw [hv]
  clear hv
  by_cases c10 : c = 10
  · have HE : Hid ((⟨#[92, 110]⟩ : ByteArray) = v) := Lib.hid (by rw [← HV.out]; unfold chB; rw [if_pos c10]; rfl)
    subst c10
    go_enter Tryd.func12, Tryd.ntmps12
    go_wp2
    go_ret
    rw [HE.out]
    exact ⟨rfl, Below.refl _ _⟩
  by_cases c9 : c = 9
  · have HE : Hid ((⟨#[92, 116]⟩ : ByteArray) = v) := Lib.hid (by rw [← HV.out]; unfold chB; rw [if_neg c10, if_pos c9]; rfl)
    subst c9
    go_enter Tryd.func12, Tryd.ntmps12
    go_wp2
    go_ret
    rw [HE.out]
    exact ⟨rfl, Below.refl _ _⟩
  by_cases c13 : c = 13
  · have HE : Hid ((⟨#[92, 114]⟩ : ByteArray) = v) := Lib.hid (by rw [← HV.out]; unfold chB; rw [if_neg c10, if_neg c9, if_pos c13]; rfl)
    subst c13
    go_enter Tryd.func12, Tryd.ntmps12
    go_wp2
    go_ret
    rw [HE.out]
    exact ⟨rfl, Below.refl _ _⟩
  have e10 : (c == 10) = false := by rw [beq_eq_false_iff_ne]; exact c10
  have e9 : (c == 9) = false := by rw [beq_eq_false_iff_ne]; exact c9
  have e13 : (c == 13) = false := by rw [beq_eq_false_iff_ne]; exact c13
  have HYES := Lib.hid (fun (h : inS c (bs S) = true) => (show ofL (92 :: ptBytes c.toNat) = v by rw [← HV.out]; unfold chB; rw [if_neg c10, if_neg c9, if_neg c13, if_pos h]))
  have HNO := Lib.hid (fun (h : inS c (bs S) = false) => (show ofL (ptBytes c.toNat) = v by rw [← HV.out]; unfold chB; rw [if_neg c10, if_neg c9, if_neg c13, if_neg (by rw [h]; simp)]))
  have HA := Lib.hid ha
  have hp2 := hp
  rw [isPt_iff] at hp2
  obtain ⟨n, rfl⟩ : ∃ n : Nat, c = (n : Int) := ⟨c.toNat, by omega⟩
  have HP := Lib.hid hp
  have hn : ((n : Int)).toNat = n := by omega
  rw [hn] at HYES HNO
  clear ha hp hp2 hn c10 c9 c13
  go_enter Tryd.func12, Tryd.ntmps12
  go_wp2
  go_loopw [5] (fun iv wr => ∃ i : Nat, i ≤ S.size ∧ iv = .int .i64 (i : Int) ∧ Hid (∀ j, (hj : j < S.size) → j < i → ¬ (S[j].toNat : Int) = (n : Int)) ∧ w = wr) (fun iv _ => S.size - (intOf iv).toNat)
  case atStart => exact ⟨0, Nat.zero_le _, rfl, Lib.hid (fun j _ h => absurd h (Nat.not_lt_zero _)), rfl⟩
  case round =>
    obtain ⟨i, hi, rfl, hno, hw⟩ := hrel
    obtain rfl : w = _ := hw
    by_cases hlt : i < S.size
    · have HC := Lib.hid (cut1 S i hlt)
      have hasc := HA.out.at i hlt
      have HIY := Lib.hid (fun h => inS_yes hlt (c := (n : Int)) h)
      have hxz : (S.extract i (i + 1)).size ≤ 1 := by rw [ByteArray.size_extract]; omega
      obtain ⟨x, hx⟩ : ∃ x, S[i] = x := ⟨_, rfl⟩
      have hx' : S[i] = x := hx
      rw [hx] at HC hasc HIY
      have hxl := x.toNat_lt
      clear hx
      by_cases hcx : (n : Int) = (x.toNat : Int)
      · have hb : ((n : Int) == (x.toNat : Int)) = true := by rw [beq_iff_eq]; exact hcx
        have HE := Lib.hid (show (⟨#[92]⟩ : ByteArray) ++ S.extract i (i + 1) = v by
          rw [HC.out, ← HYES.out (HIY.out hcx.symm), show n = x.toNat by omega, ptBytes_asc x hasc]
          exact bs_inj (by simp [bs, ofL]))
        clear hcx
        go_wp2
        go_ret
        rw [HE.out]
        exact ⟨rfl, Below.refl _ _⟩
      · have hb : ((n : Int) == (x.toNat : Int)) = false := by rw [beq_eq_false_iff_ne]; exact hcx
        have HN2 := Lib.hid (show ∀ j, (hj : j < S.size) → j < i + 1 → ¬ (S[j].toNat : Int) = (n : Int) from fun j hj h => by
          by_cases e : j = i
          · subst e; rw [hx']; omega
          · exact hno.out j hj (by omega))
        clear hcx
        go_wp2
        exact ⟨⟨i + 1, by omega, by go_num, HN2.out, trivial⟩, by simp [intOf]; omega⟩
    · obtain rfl : i = S.size := by omega
      have HE := Lib.hid (HNO.out (inS_no fun j hj => hno.out j hj hj))
      have HT := Lib.hid (l01Text_any w.heap.size (.slice (some ⟨w.heap.size, 0, none⟩) 1 1) 1 [n] (w.alloc (.cells #[.int .i64 (n : Int)] 3)) (ownsRow_one w w.heap.size 3 (.int .i64 (n : Int)) (Nat.le_refl _)) (fun d hd => by simp at hd; rw [hd]; exact HP.out) (by omega))
      have hen : enc [n] = ptBytes n := by simp [enc]
      rw [hen] at HT
      have hsz : (w.alloc (.cells #[.int .i64 (n : Int)] 3)).heap.size = w.heap.size + 1 := by simp
      have HB := Lib.hid ((Below.refl w.heap.size w).alloc (Nat.le_refl _) (.cells #[.int .i64 (n : Int)] 3))
      clear hen hno
      go_wp2_with fail
      refine HT.out.mono ?_
      rintro e w1 ⟨rfl, hb⟩
      have HB1 := Lib.hid (HB.out.trans (hb.mono HB.out.size))
      clear hb
      go_wp2
      go_ret
      rw [HE.out]
      exact ⟨rfl, HB1.out⟩
end Go.Proofs.YtpolpihgclemnaaDoor

/-
  The contracts of FileOk, the reference's and the program's: a text of at most 4000 bytes. Conditions: the string is no longer than 2 to the 40; the tables of unicode utf8 stand in memory.
-/
import Derived.Test.YthpdmipgnoidpaaDoorRunes
namespace Go.Proofs.YthpdmipgnoidpaaDoor
open Go.RowKit
open Go.Lib hiding intOf
set_option linter.unusedVariables false
set_option linter.unusedSimpArgs false

/-- a text of at most 4000 bytes -/
def okF (l : List UInt8) : Bool := decide (l.length ≤ 4000) && (runes l).isSome
theorem okF_long {l : List UInt8} (h : 4000 < l.length) : okF l = false := by
  have : ¬ l.length ≤ 4000 := by omega
  simp [okF, this]
theorem okF_short {l : List UInt8} (h : l.length ≤ 4000) : okF l = (runes l).isSome := by simp [okF, h]

set_option maxHeartbeats 1000000 in
theorem specFileOk_any (s : ByteArray) (w : World) (hs : s.size ≤ 1099511627776) :
    Calls Tryd.prog 32 #[.string s] w fun e w' => e = .returned (.bool (okF (bs s))) ∧ Below w.heap.size w w' := by
  by_cases hlong : 4000 < s.size
  · have HO := Lib.hid (okF_long (l := bs s) (by rw [bs_length]; exact hlong))
    have hlong' : (4000 : Int) < (s.size : Int) := by omega
    go_enter Tryd.func32, Tryd.ntmps32
    go_wp2
    go_ret
    rw [HO.out]
    exact ⟨rfl, Below.refl _ _⟩
  · have hlong' : (s.size : Int) ≤ 4000 := by omega
    have HLO := Lib.hid (okF_short (l := bs s) (by rw [bs_length]; omega))
    clear hlong
    go_enter Tryd.func32, Tryd.ntmps32
    go_wp2
    go_loopw [3] (fun i wr => ∃ (k : Nat), k ≤ s.size ∧ i = .int .i64 k ∧ Below w.heap.size w wr ∧ (runes (bs s)).isSome = (runes ((bs s).drop k)).isSome) (fun i _ => s.size - (intOf i).toNat)
    case atStart => exact ⟨0, Nat.zero_le _, rfl, Below.refl _ _, by rw [List.drop_zero]⟩
    case round =>
      obtain ⟨k, hk, rfl, hb, hr⟩ := hrel
      have HB := Lib.hid hb
      have HR := Lib.hid hr
      clear hb hr
      by_cases hlt : k < s.size
      · go_wp2_with fail
        refine (l01Next_any s k hlt hs _).mono ?_
        rintro e w1 ⟨rfl, hb1⟩
        have HB1 := Lib.hid (HB.out.trans (hb1.mono HB.out.size))
        have hne : (bs s).drop k ≠ [] := by
          intro e
          have := congrArg List.length e
          rw [List.length_drop, bs_length] at this
          simp at this; omega
        have HST := Lib.hid (runes_step _ hne)
        have HNX := Lib.hid (nx_bound _ hne)
        obtain ⟨c, hc⟩ : ∃ c, (nx ((bs s).drop k)).1 = c := ⟨_, rfl⟩
        obtain ⟨n, hn⟩ : ∃ n, (nx ((bs s).drop k)).2 = n := ⟨_, rfl⟩
        rw [hc, hn]
        have HN := Lib.hid hn
        have hnb := HNX.out
        rw [hn, List.length_drop, bs_length] at hnb
        clear hc hn hb1 hne
        by_cases h0 : n = 0
        · have h0b : ((n : Int) == 0) = true := by rw [h0]; rfl
          have HE := Lib.hid (show okF (bs s) = false by rw [HLO.out, HR.out, HST.out, HN.out, if_pos h0]; rfl)
          clear h0
          go_wp2
          go_ret
          rw [HE.out]
          exact ⟨rfl, HB1.out⟩
        · have h0b : ((n : Int) == 0) = false := by rw [beq_eq_false_iff_ne]; omega
          go_wp2
          refine ⟨⟨k + n, by omega, by go_num, HB1.out, ?_⟩, by simp [intOf]; omega⟩
          rw [HR.out, HST.out, HN.out, if_neg h0, List.drop_drop, Option.isSome_map]
      · obtain rfl : k = s.size := by omega
        have HE := Lib.hid (show okF (bs s) = true by
          rw [HLO.out, HR.out, List.drop_of_length_le (by rw [bs_length]; exact Nat.le_refl _)]; rfl)
        go_wp2
        go_ret
        rw [HE.out]
        exact ⟨rfl, HB.out⟩

theorem isFile_any (s : ByteArray) (w : World) (hs : s.size ≤ 1099511627776) (hT : Tabs w) :
    Calls Tryd.prog 34 #[.string s] w fun e w' => e = .returned (.bool (okF (bs s))) ∧ Below w.heap.size w w' := by
  have HT := Lib.hid hT
  clear hT
  by_cases hlong : 4000 < s.size
  · have HO := Lib.hid (okF_long (l := bs s) (by rw [bs_length]; exact hlong))
    have hlong' : (4000 : Int) < (s.size : Int) := by omega
    go_enter Tryd.func34, Tryd.ntmps34
    go_wp2
    go_ret
    rw [HO.out]
    exact ⟨rfl, Below.refl _ _⟩
  · have hlong' : (s.size : Int) ≤ 4000 := by omega
    have HLO := Lib.hid (okF_short (l := bs s) (by rw [bs_length]; omega))
    have HV := Lib.hid (runes_valid _ (bs s) (Nat.le_refl _))
    clear hlong
    have HI := Lib.hid (show (bs s).contains 0 = decide (0 ≤ Lib.indexByte s.data.toList (0 : Int).toNat.toUInt8) from Lib.contains_iff_indexByte (bs s) 0)
    go_enter Tryd.func34, Tryd.ntmps34
    cases hV : Lib.validD s.data.toList
    · have HE := Lib.hid (show okF (bs s) = false by
        rw [HLO.out]
        cases h : (runes (bs s)).isSome with
        | false => rfl
        | true => have := (HV.out.1 h).1; rw [show Lib.validD (bs s) = false from hV] at this; cases this)
      go_wp2_with (go_at_call 71; refine (validString_any s _ hs HT.out).mono ?_; rintro e w1 ⟨rfl, hb1⟩; rw [hV])
      go_ret
      rw [HE.out]
      exact ⟨rfl, hb1⟩
    · obtain ⟨z, hz⟩ : ∃ z, Lib.indexByte s.data.toList (0 : Int).toNat.toUInt8 = z := ⟨_, rfl⟩
      have HZ := Lib.hid hz
      have HVV := Lib.hid hV
      have HE : okF (bs s) = decide (z < 0) := by
        rw [HLO.out]
        have h1 := HI.out
        rw [hz] at h1
        by_cases h0 : 0 ≤ z
        · rw [decide_eq_true h0, List.contains_iff_mem] at h1
          rw [decide_eq_false (by omega)]
          cases h : (runes (bs s)).isSome with
          | false => rfl
          | true => exact absurd rfl ((HV.out.1 h).2 0 h1)
        · rw [decide_eq_false h0] at h1
          rw [decide_eq_true (by omega)]
          exact HV.out.2 ⟨hV, fun x hx e => by
            have : (bs s).contains 0 = true := by rw [List.contains_iff_mem]; rw [← e]; exact hx
            rw [h1] at this; cases this⟩
      have HEE := Lib.hid HE
      clear hz HE
      go_wp2_with fail
      refine (validString_any s _ hs HT.out).mono ?_
      rintro e w1 ⟨rfl, hb1⟩
      rw [HVV.out]
      have HB1 := Lib.hid hb1
      clear hb1 hV
      go_wp2_with fail
      refine (Tryd.strings_IndexByte s 0 w1).mono ?_
      rintro e w2 ⟨rfl, hw2⟩
      obtain rfl : w1 = w2 := hw2.symm
      rw [HZ.out]
      go_wp2
      go_ret
      rw [HEE.out]
      exact ⟨rfl, HB1.out⟩
end Go.Proofs.YthpdmipgnoidpaaDoor

/-
  The contracts of Looks, both sides'. Conditions: as in the text on Prefix.
-/
import Derived.Test.YtjjpdoabagnmoaaGreatDoorPrefix
namespace Go.Proofs.YtjjpdoabagnmoaaGreatDoor
open Go.RowKit
set_option linter.unusedVariables false
set_option linter.unusedSimpArgs false

/-- nothing but blanks stands from a place on -/
def tailB (l : List UInt8) (k : Nat) : Bool := decide (k + blN (l.drop k) = l.length)
/-- a text looks like a number -/
def lookB (l : List UInt8) (c : Int) : Bool := decide (0 < preE l) && (decide (c = 0) && tailB l (preE l).toNat)
theorem preE_le (l : List UInt8) : -1 ≤ preE l ∧ preE l ≤ l.length := by
  have h1 := blN_le l
  have h2 := scanN_le (l.drop (blN l))
  rw [List.length_drop] at h2
  unfold preE
  split
  · split <;> omega
  · omega
theorem blN_full {l : List UInt8} (h : blN l = l.length) : l.drop (blN l) = [] := List.drop_of_length_le (by omega)
set_option maxRecDepth 10000 in
set_option maxHeartbeats 1000000 in
theorem specLooks_to (s : ByteArray) (n' : Bool) (u : ByteArray) (y' c : Int) (w : World) (hs : s.size ≤ 1099511627776) (h : PreRes (bs s) n' u y' c) :
    Calls Tryz.prog 11 #[.string s] w fun e w' => e = .returned (.bool (lookB (bs s) c)) ∧ Below w.heap.size w w' := by
  have hE := Lib.hid (fun w => specPrefixEnd_any s w hs)
  have hP := Lib.hid (fun w => specPrefix_to s n' u y' c w hs h)
  obtain ⟨p1, p2⟩ := preE_le (bs s)
  rw [bs_length] at p2
  obtain ⟨p, hp⟩ : ∃ p, preE (bs s) = p := ⟨_, rfl⟩
  unfold lookB
  rw [hp] at hE p1 p2 ⊢
  clear hp h
  by_cases h1 : p < 1
  · rw [decide_eq_false (show ¬ 0 < p by omega), Bool.false_and]
    go_enter Tryz.func11, Tryz.ntmps11
    go_wp2_with (go_at_call 28; refine (hE.out _).mono ?_; rintro e w1 ⟨rfl, hb1⟩)
    go_ret
    exact ⟨rfl, hb1⟩
  · rw [decide_eq_true (show 0 < p by omega), Bool.true_and]
    obtain ⟨E, rfl⟩ : ∃ E : Nat, p = (E : Int) := ⟨p.toNat, by omega⟩
    rw [Int.toNat_natCast]
    obtain ⟨L, hL⟩ : ∃ L, E + blN ((bs s).drop E) = L := ⟨_, rfl⟩
    have HTB := Lib.hid (show tailB (bs s) E = decide (L = s.size) by unfold tailB; rw [hL, bs_length])
    have HL := Lib.hid hL
    have hEs : E ≤ s.size := by omega
    clear hL p1 p2
    go_enter Tryz.func11, Tryz.ntmps11
    go_wp2_with fail
    refine (hE.out _).mono ?_
    rintro e w1 ⟨rfl, hb1⟩
    go_wp2_with fail
    refine (hP.out _).mono ?_
    rintro e w2 ⟨rfl, hb2⟩
    have HB := Lib.hid (hb1.trans (hb2.mono hb1.size))
    have hlo : w.heap.size ≤ w2.heap.size := HB.out.size
    clear hb1 hb2
    go_wp2
    go_loop [6] (fun i => ∃ k : Nat, k ≤ s.size ∧ i = .int .i64 (k : Int) ∧ k + blN ((bs s).drop k) = L) (fun i => s.size - (intOf i).toNat)
    case atStart => exact ⟨E, hEs, rfl, HL.out⟩
    case round =>
      obtain ⟨k, hk, rfl, hr⟩ := hrel
      have HR := Lib.hid hr
      clear hr
      by_cases hlt : k < s.size
      · cases hd : isBl s[k]
        · have HK := Lib.hid (bl_out hlt hd HR.out)
          go_wp2_with (go_at_call 32; refine (isBlank_to _ s[k] _ _ (by first | omega | (rw [IntWalk.wrap64_in _ (by have := UInt8.toNat_lt s[k]; omega)])) hd).mono ?_; rintro e w3 ⟨rfl, hw3⟩; subst hw3)
          go_ret
          refine ⟨ret_bool ?_, HB.out.alloc hlo _⟩
          rw [HTB.out, decide_eq_false (show ¬ L = s.size by have := HK.out; omega), Bool.and_false]
        · go_wp2_with (go_at_call 32; refine (isBlank_to _ s[k] _ _ (by first | omega | (rw [IntWalk.wrap64_in _ (by have := UInt8.toNat_lt s[k]; omega)])) hd).mono ?_; rintro e w3 ⟨rfl, hw3⟩; subst hw3)
          go_round
          case rel => exact ⟨k + 1, by omega, by go_num, bl_at hlt hd HR.out⟩
          case measure => simp [intOf]; omega
      · have HK := Lib.hid (bl_over hlt HR.out)
        go_wp2
        go_ret
        refine ⟨ret_bool ?_, HB.out.alloc hlo _⟩
        rw [HTB.out, decide_eq_true (show L = s.size by have := HK.out; omega), Bool.and_true]
        rw [Bool.eq_iff_iff, beq_iff_eq, decide_eq_true_iff]
set_option maxRecDepth 10000 in
set_option maxHeartbeats 1000000 in
theorem implLooks_to (s : ByteArray) (n' : Bool) (u : ByteArray) (y' c : Int) (w : World) (hs : s.size ≤ 1099511627776) (hT : Tabs w) (hM : MaxCell w) (h : PreRes (bs s) n' u y' c) :
    Calls Tryz.prog 12 #[.string s] w fun e w' => e = .returned (.bool (lookB (bs s) c)) ∧ Below w.heap.size w w' := by
  have hE := Lib.hid (fun w hT => implPrefixEnd_any s w hs hT)
  have hP := Lib.hid (fun w hT hM => implprefix_to s n' u y' c w hs hT hM h)
  obtain ⟨p1, p2⟩ := preE_le (bs s)
  rw [bs_length] at p2
  obtain ⟨p, hp⟩ : ∃ p, preE (bs s) = p := ⟨_, rfl⟩
  unfold lookB
  rw [hp] at hE p1 p2 ⊢
  clear hp h
  by_cases h1 : p < 1
  · rw [decide_eq_false (show ¬ 0 < p by omega), Bool.false_and]
    have h2 : ¬ 0 < p := by omega
    go_enter Tryz.func12, Tryz.ntmps12
    go_wp2_with fail
    refine (hE.out _ hT).mono ?_
    rintro e w1 ⟨rfl, hb1⟩
    go_wp2_with fail
    refine (hP.out _ (hT.below hb1) (hM.below hb1)).mono ?_
    rintro e w2 ⟨rfl, hb2⟩
    have hB := hb1.trans (hb2.mono hb1.size)
    have hlo : w.heap.size ≤ w2.heap.size := hB.size
    clear hb1 hb2
    go_wp2
    go_ret
    exact ⟨rfl, hB.alloc hlo _⟩
  · rw [decide_eq_true (show 0 < p by omega), Bool.true_and]
    have h2 : 0 < p := by omega
    obtain ⟨E, rfl⟩ : ∃ E : Nat, p = (E : Int) := ⟨p.toNat, by omega⟩
    rw [Int.toNat_natCast]
    have hEs : (E : Int) ≤ (s.size : Int) := by omega
    cases hc : (c == 0)
    · rw [show decide (c = 0) = false from decide_eq_false (beq_eq_false_iff_ne.1 hc), Bool.false_and]
      clear p1 p2
      go_enter Tryz.func12, Tryz.ntmps12
      go_wp2_with fail
      refine (hE.out _ hT).mono ?_
      rintro e w1 ⟨rfl, hb1⟩
      go_wp2_with fail
      refine (hP.out _ (hT.below hb1) (hM.below hb1)).mono ?_
      rintro e w2 ⟨rfl, hb2⟩
      have hB := hb1.trans (hb2.mono hb1.size)
      have hlo : w.heap.size ≤ w2.heap.size := hB.size
      clear hb1 hb2
      go_wp2
      go_ret
      exact ⟨rfl, hB.alloc hlo _⟩
    · rw [show decide (c = 0) = true from decide_eq_true (beq_iff_eq.1 hc), Bool.true_and]
      obtain ⟨T, hT1⟩ : ∃ T, ofL (((bs s).drop E).drop (blN ((bs s).drop E))) = T := ⟨_, rfl⟩
      have HTR := Lib.hid (show (bs (s.extract E s.size)).drop (blN (bs (s.extract E s.size))) = bs T by rw [bs_ext, ← hT1, bs_ofL])
      have hTs := size_ofL (((bs s).drop E).drop (blN ((bs s).drop E)))
      rw [hT1, List.length_drop, List.length_drop, bs_length] at hTs
      have hbl := blN_le ((bs s).drop E)
      rw [List.length_drop, bs_length] at hbl
      cases ht : tailB (bs s) E
      · have hne : 0 < T.size := by
          unfold tailB at ht
          rw [bs_length, decide_eq_false_iff_not] at ht
          omega
        have hemp := isEmpty_no hne
        clear p1 p2 ht hTs hbl hT1 hne
        go_enter Tryz.func12, Tryz.ntmps12
        go_wp2_with fail
        refine (hE.out _ hT).mono ?_
        rintro e w1 ⟨rfl, hb1⟩
        go_wp2_with fail
        refine (hP.out _ (hT.below hb1) (hM.below hb1)).mono ?_
        rintro e w2 ⟨rfl, hb2⟩
        have hB := hb1.trans (hb2.mono hb1.size)
        have hlo : w.heap.size ≤ w2.heap.size := hB.size
        clear hb1 hb2
        go_wp2_with (go_at_call 34; refine (trimBlanks_to _ T _ HTR.out).mono ?_; rintro e w3 ⟨rfl, hb3⟩; obtain ⟨hb3c, hb3f⟩ := bcell hb3; have hb3q := hb3.size; (try simp at hb3q); (try have hb3q_w20 : w2.heap.size < w3.heap.size := (by omega)))
        go_ret
        exact ⟨rfl, (hB.alloc hlo _).trans (hb3.mono (hB.alloc hlo _).size)⟩
      · have hne : T.size = 0 := by
          unfold tailB at ht
          rw [bs_length, decide_eq_true_iff] at ht
          omega
        have hemp := isEmpty_yes hne
        clear p1 p2 ht hTs hbl hT1 hne
        go_enter Tryz.func12, Tryz.ntmps12
        go_wp2_with fail
        refine (hE.out _ hT).mono ?_
        rintro e w1 ⟨rfl, hb1⟩
        go_wp2_with fail
        refine (hP.out _ (hT.below hb1) (hM.below hb1)).mono ?_
        rintro e w2 ⟨rfl, hb2⟩
        have hB := hb1.trans (hb2.mono hb1.size)
        have hlo : w.heap.size ≤ w2.heap.size := hB.size
        clear hb1 hb2
        go_wp2_with (go_at_call 34; refine (trimBlanks_to _ T _ HTR.out).mono ?_; rintro e w3 ⟨rfl, hb3⟩; obtain ⟨hb3c, hb3f⟩ := bcell hb3; have hb3q := hb3.size; (try simp at hb3q); (try have hb3q_w20 : w2.heap.size < w3.heap.size := (by omega)))
        go_ret
        exact ⟨rfl, (hB.alloc hlo _).trans (hb3.mono (hB.alloc hlo _).size)⟩
end Go.Proofs.YtjjpdoabagnmoaaGreatDoor

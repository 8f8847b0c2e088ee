/-
  Texts of this claim in one file, in build order: Blank, TextOk, PrefixEnd, Prefix, Looks, GapL, LooksLikeWalk. Each says ahead what it proves and under which conditions.
-/
import Derived.Test.YtjjpdoabagnmoaaGreatDoorQ12
import Derived.Test.YtjjpdoabagnmoaaGreatDoorShelf
import Derived.Lib.SlTrimSet
import Derived.Shelf.Strings.SlTrimAscii
import Derived.Test.YtjjpdoabagnmoaaGreatDoorQ17
import Derived.Test.YtjjpdoabagnmoaaGreatDoorQ13
import Derived.Test.YtjjpdoabagnmoaaGreatDoorQ14
import Derived.Test.YtjjpdoabagnmoaaGreatDoorQ01
import Derived.Test.YtjjpdoabagnmoaaGreatDoorQ18
import Derived.Test.YtjjpdoabagnmoaaGreatDoorQ08
import Derived.Test.YtjjpdoabagnmoaaGreatDoorQ11
/-
  The blanks ahead of a text: what both sides make of them. Conditions: a string no longer than 2 to the 40.
-/
namespace Go.Proofs.YtjjpdoabagnmoaaGreatDoor
open Go.RowKit
set_option linter.unusedVariables false
set_option linter.unusedSimpArgs false

def isBl (c : UInt8) : Bool := decide (c = 32) || decide (c = 9) || decide (c = 10) || decide (c = 13)
/-- how many blanks stand ahead -/
def blN : List UInt8 → Nat
  | [] => 0
  | c :: l => if isBl c = true then blN l + 1 else 0
theorem blN_le : ∀ l : List UInt8, blN l ≤ l.length
  | [] => Nat.le_refl _
  | c :: l => by
    rw [blN]
    split
    · have := blN_le l; simp; omega
    · exact Nat.zero_le _
theorem trim_blN : ∀ l : List UInt8, Lib.trimLeftS l [32, 9, 10, 13] = l.drop (blN l)
  | [] => rfl
  | c :: l => by
    have hc : [32, 9, 10, 13].contains c = isBl c := by
      unfold isBl
      simp only [List.contains_cons, List.contains_nil, Bool.or_false, Bool.or_assoc]
      rfl
    have ih := trim_blN l
    unfold Lib.trimLeftS at ih ⊢
    rw [blN]
    by_cases h : isBl c = true
    · rw [if_pos h, List.dropWhile_cons_of_pos (by rw [hc]; exact h), ih, List.drop_succ_cons]
    · rw [if_neg h, List.dropWhile_cons_of_neg (by rw [hc]; exact h)]; rfl
theorem isBl_int (c : UInt8) : isBl c = ((((c.toNat : Int) == 32) || ((c.toNat : Int) == 9)) || ((c.toNat : Int) == 10) || ((c.toNat : Int) == 13)) := by
  have e : ∀ d : UInt8, decide (c = d) = ((c.toNat : Int) == (d.toNat : Int)) := fun d => by
    rw [Bool.eq_iff_iff, decide_eq_true_iff, beq_iff_eq]
    exact ⟨fun h => by rw [h], fun h => u8_eq h⟩
  unfold isBl
  rw [e 32, e 9, e 10, e 13]
  rfl
theorem isBlank_to (x : Int) (c : UInt8) (b : Bool) (w : World) (hx : x = (c.toNat : Int)) (hb : isBl c = b) :
    Calls Tryz.prog 32 #[.int .i64 x] w fun e w' => e = .returned (.bool b) ∧ w' = w := by
  subst hx hb
  rw [isBl_int]
  obtain ⟨b1, h1⟩ : ∃ b, ((c.toNat : Int) == 32) = b := ⟨_, rfl⟩
  obtain ⟨b2, h2⟩ : ∃ b, ((c.toNat : Int) == 9) = b := ⟨_, rfl⟩
  obtain ⟨b3, h3⟩ : ∃ b, ((c.toNat : Int) == 10) = b := ⟨_, rfl⟩
  obtain ⟨b4, h4⟩ : ∃ b, ((c.toNat : Int) == 13) = b := ⟨_, rfl⟩
  rw [h1, h2, h3, h4]
  cases b1 <;> cases b2 <;> cases b3 <;> cases b4
  all_goals
    go_enter Tryz.func32, Tryz.ntmps32
    go_wp2
    go_ret
    exact ⟨rfl, rfl⟩
theorem bl_at {s : ByteArray} {k A : Nat} (h : k < s.size) (hd : isBl s[k] = true) (h1 : k + blN ((bs s).drop k) = A) : k + 1 + blN ((bs s).drop (k + 1)) = A := by
  rw [bs_drop s k h, blN, if_pos hd] at h1
  omega
theorem bl_out {s : ByteArray} {k A : Nat} (h : k < s.size) (hd : isBl s[k] = false) (h1 : k + blN ((bs s).drop k) = A) : k = A := by
  rw [bs_drop s k h, blN, if_neg (by rw [hd]; decide)] at h1
  exact h1
theorem bl_over {s : ByteArray} {k A : Nat} (h : ¬ k < s.size) (h1 : k + blN ((bs s).drop k) = A) : k = A := by
  rw [drop_over h] at h1
  exact h1
theorem l04Start_to (s : ByteArray) (A : Nat) (w : World) (hs : s.size ≤ 1099511627776) (hA : blN (bs s) = A) :
    Calls Tryz.prog 30 #[.string s] w fun e w' => e = .returned (.int .i64 (A : Int)) ∧ w' = w := by
  have HA := Lib.hid (show 0 + blN ((bs s).drop 0) = A by rw [Nat.zero_add]; exact hA)
  clear hA
  go_enter Tryz.func30, Tryz.ntmps30
  go_wp2
  go_loop [3] (fun i => ∃ k : Nat, k ≤ s.size ∧ i = .int .i64 (k : Int) ∧ k + blN ((bs s).drop k) = A) (fun i => s.size - (intOf i).toNat)
  case atStart => exact ⟨0, by omega, rfl, HA.out⟩
  case round =>
    obtain ⟨k, hk, rfl, hr⟩ := hrel
    have HR := Lib.hid hr
    clear hr
    by_cases hlt : k < s.size
    · cases hd : isBl s[k]
      · obtain rfl := bl_out hlt hd HR.out
        go_wp2_with (go_at_call 32; refine (isBlank_to _ s[k] _ _ (by first | omega | (rw [IntWalk.wrap64_in _ (by have := UInt8.toNat_lt s[k]; omega)])) hd).mono ?_; rintro e w1 ⟨rfl, rfl⟩)
        go_ret
        exact ⟨rfl, rfl⟩
      · go_wp2_with (go_at_call 32; refine (isBlank_to _ s[k] _ _ (by first | omega | (rw [IntWalk.wrap64_in _ (by have := UInt8.toNat_lt s[k]; omega)])) hd).mono ?_; rintro e w1 ⟨rfl, rfl⟩)
        go_round
        case rel => exact ⟨k + 1, by omega, by go_num, bl_at hlt hd HR.out⟩
        case measure => simp [intOf]; omega
    · obtain rfl := bl_over hlt HR.out
      go_wp2
      go_ret
      exact ⟨rfl, rfl⟩
theorem trimBlanks_to (t T : ByteArray) (w : World) (hr : (bs t).drop (blN (bs t)) = bs T) :
    Calls Tryz.prog 34 #[.string t, .string ⟨#[32, 9, 10, 13]⟩] w fun e w' => e = .returned (.string T) ∧ Below w.heap.size w w' := by
  refine (Any.strings_TrimLeft_laid Tryz.lays161 (by kernel_rfl) t ⟨#[32, 9, 10, 13]⟩ w (by decide) (ascii_of_all (by decide))).mono ?_
  rintro e w' ⟨rfl, hb⟩
  refine ⟨?_, hb⟩
  show Ending.returned (Value.string (ofL (Lib.trimLeftS (bs t) [32, 9, 10, 13]))) = _
  rw [trim_blN, hr, ofL_bs]
theorem l03Scan_over (s : ByteArray) (k0 : Nat) (w : World) (hs : s.size ≤ 1099511627776) (h : ¬ k0 < s.size) (hk : k0 ≤ 1099511627776) :
    Calls Tryz.prog 57 #[.string s, .int .i64 (k0 : Int)] w fun e w' => e = .returned (.int .i64 (k0 : Int)) ∧ w' = w := by
  go_enter Tryz.func57, Tryz.ntmps57
  go_wp2
  go_loop [5, 6, 7] (fun u v q => u = .int .i64 (k0 : Int) ∧ v = .int .i64 0) (fun _ _ _ => 0)
  case atStart => exact ⟨rfl, rfl⟩
  case round =>
    obtain ⟨rfl, rfl⟩ := hrel
    go_wp2
    go_ret
    exact ⟨rfl, rfl⟩
theorem l03Scan_to (s : ByteArray) (x : Int) (k0 K : Nat) (w : World) (hx : x = (k0 : Int)) (hs : s.size ≤ 1099511627776) (hk : k0 ≤ s.size) (hK : k0 + scanN ((bs s).drop k0) = K) :
    Calls Tryz.prog 57 #[.string s, .int .i64 x] w fun e w' => e = .returned (.int .i64 (K : Int)) ∧ w' = w := by
  subst hx
  by_cases h : k0 < s.size
  · rw [← hK]; exact l03Scan_any s k0 w hs h
  · rw [drop_over h] at hK
    obtain rfl : k0 = K := hK
    exact l03Scan_over s k0 w hs h (by omega)
theorem decEnd_to' (s : ByteArray) (K : Nat) (w : World) (hs : s.size ≤ 1099511627776) (hK : scanN (bs s) = K) :
    Calls Tryz.prog 43 #[.string s] w fun e w' => e = .returned (.int .i64 (K : Int)) ∧ w' = w := by
  subst hK; exact decEnd_any s w hs
end Go.Proofs.YtjjpdoabagnmoaaGreatDoor
/-
  The contracts of TextOk, the reference's and the program's: each answers okT. Conditions: as in the text on Runes.
-/
namespace Go.Proofs.YtjjpdoabagnmoaaGreatDoor
open Go.RowKit
open Go.Lib hiding intOf
set_option linter.unusedVariables false
set_option linter.unusedSimpArgs false

theorem specTextOk_any (s : ByteArray) (w : World) (hs : s.size ≤ 1099511627776) :
    Calls Tryz.prog 56 #[.string s] w fun e w' => e = .returned (.bool (okT (bs s))) ∧ Below w.heap.size w w' := by
  go_enter Tryz.func56, Tryz.ntmps56
  go_wp2_with fail
  refine (specRunes_any s _ hs).mono ?_
  rintro e w1 ⟨v, rfl, hown, hb⟩
  clear hown
  have HB := Lib.hid hb
  clear hb
  go_wp2
  go_ret
  exact ⟨rfl, HB.out⟩
theorem implTextOk_any (s : ByteArray) (w : World) (hs : s.size ≤ 1099511627776) (hT : Tabs w) :
    Calls Tryz.prog 60 #[.string s] w fun e w' => e = .returned (.bool (okT (bs s))) ∧ Below w.heap.size w w' := by
  have HT := Lib.hid hT
  clear hT
  go_enter Tryz.func60, Tryz.ntmps60
  go_wp2_with fail
  refine (runesOf_any s _ hs HT.out).mono ?_
  rintro e w1 ⟨v, rfl, hown, hb⟩
  clear hown
  have HB := Lib.hid hb
  clear hb
  go_wp2
  go_ret
  exact ⟨rfl, HB.out⟩
end Go.Proofs.YtjjpdoabagnmoaaGreatDoor
/-
  The contracts of PrefixEnd, both sides'. Conditions: a string no longer than 2 to the 40; for the program's the tables of unicode utf8 stand in memory.
-/
namespace Go.Proofs.YtjjpdoabagnmoaaGreatDoor
open Go.RowKit
set_option linter.unusedVariables false
set_option linter.unusedSimpArgs false

/-- where the number ahead ends; -1 where the text is none -/
def preE (l : List UInt8) : Int := if okT l = true then (if scanN (l.drop (blN l)) = 0 then 0 else ((blN l + scanN (l.drop (blN l)) : Nat) : Int)) else -1
theorem specPrefixEnd_any (s : ByteArray) (w : World) (hs : s.size ≤ 1099511627776) :
    Calls Tryz.prog 28 #[.string s] w fun e w' => e = .returned (.int .i64 (preE (bs s))) ∧ Below w.heap.size w w' := by
  obtain ⟨A, hA⟩ : ∃ A, blN (bs s) = A := ⟨_, rfl⟩
  obtain ⟨N, hN⟩ : ∃ N, scanN ((bs s).drop A) = N := ⟨_, rfl⟩
  have hle := blN_le (bs s)
  have hle2 := scanN_le ((bs s).drop A)
  rw [List.length_drop] at hle2
  rw [bs_length, hA] at hle
  rw [bs_length, hN] at hle2
  unfold preE
  rw [hA, hN]
  cases hk : okT (bs s)
  · rw [if_neg (by decide)]
    go_enter Tryz.func28, Tryz.ntmps28
    go_wp2_with (go_at_call 56; refine (specTextOk_any _ _ hs).mono ?_; rintro e w1 ⟨rfl, hb1⟩; rw [hk])
    go_ret
    exact ⟨rfl, hb1⟩
  · rw [if_pos rfl]
    by_cases h0 : N = 0
    · rw [if_pos h0]
      have hx : ((A : Int) == (A : Int)) = true := beq_self_eq_true _
      go_enter Tryz.func28, Tryz.ntmps28
      go_wp2_with (first | (go_at_call 56; refine (specTextOk_any _ _ hs).mono ?_; rintro e w1 ⟨rfl, hb1⟩; rw [hk]) | (go_at_call 30; refine (l04Start_to _ A _ hs hA).mono ?_; rintro e w2 ⟨rfl, rfl⟩) | (go_at_call 57; refine (l03Scan_to _ _ A A _ rfl hs hle (by rw [hN, h0]; rfl)).mono ?_; rintro e w3 ⟨rfl, rfl⟩))
      go_ret
      exact ⟨rfl, hb1⟩
    · rw [if_neg h0]
      obtain ⟨K, hK⟩ : ∃ K, A + N = K := ⟨_, rfl⟩
      rw [hK]
      have hx : ((K : Int) == (A : Int)) = false := beq_eq_false_iff_ne.2 (by omega)
      go_enter Tryz.func28, Tryz.ntmps28
      go_wp2_with (first | (go_at_call 56; refine (specTextOk_any _ _ hs).mono ?_; rintro e w1 ⟨rfl, hb1⟩; rw [hk]) | (go_at_call 30; refine (l04Start_to _ A _ hs hA).mono ?_; rintro e w2 ⟨rfl, rfl⟩) | (go_at_call 57; refine (l03Scan_to _ _ A K _ rfl hs hle (by rw [hN, hK])).mono ?_; rintro e w3 ⟨rfl, rfl⟩))
      go_ret
      exact ⟨rfl, hb1⟩
theorem implPrefixEnd_any (s : ByteArray) (w : World) (hs : s.size ≤ 1099511627776) (hT : Tabs w) :
    Calls Tryz.prog 33 #[.string s] w fun e w' => e = .returned (.int .i64 (preE (bs s))) ∧ Below w.heap.size w w' := by
  obtain ⟨A, hA⟩ : ∃ A, blN (bs s) = A := ⟨_, rfl⟩
  obtain ⟨N, hN⟩ : ∃ N, scanN ((bs s).drop A) = N := ⟨_, rfl⟩
  have hle := blN_le (bs s)
  have hle2 := scanN_le ((bs s).drop A)
  rw [List.length_drop] at hle2
  rw [bs_length, hA] at hle
  rw [bs_length, hN] at hle2
  unfold preE
  rw [hA, hN]
  have hTs := size_ofL ((bs s).drop A)
  rw [List.length_drop, bs_length] at hTs
  obtain ⟨T, hT0⟩ : ∃ T, ofL ((bs s).drop A) = T := ⟨_, rfl⟩
  rw [hT0] at hTs
  have HTR := Lib.hid (show (bs s).drop (blN (bs s)) = bs T by rw [hA, ← hT0, bs_ofL])
  have HTN := Lib.hid (show scanN (bs T) = N by rw [← hT0, bs_ofL, hN])
  have hT2 : T.size ≤ 1099511627776 := by omega
  have HTS := Lib.hid hTs
  clear hT0 hTs hA hN
  cases hk : okT (bs s)
  · rw [if_neg (by decide)]
    go_enter Tryz.func33, Tryz.ntmps33
    go_wp2_with (go_at_call 60; refine (implTextOk_any _ _ hs hT).mono ?_; rintro e w1 ⟨rfl, hb1⟩; rw [hk])
    go_ret
    exact ⟨rfl, hb1⟩
  · rw [if_pos rfl]
    by_cases h0 : N = 0
    · rw [if_pos h0]
      subst h0
      go_enter Tryz.func33, Tryz.ntmps33
      go_wp2_with (first | (go_at_call 60; refine (implTextOk_any _ _ hs hT).mono ?_; rintro e w1 ⟨rfl, hb1⟩; rw [hk]) | (go_at_call 34; refine (trimBlanks_to s T _ HTR.out).mono ?_; rintro e w2 ⟨rfl, hb2⟩) | (go_at_call 43; refine (decEnd_to' T 0 _ hT2 HTN.out).mono ?_; rintro e w3 ⟨rfl, rfl⟩))
      go_ret
      exact ⟨rfl, hb1.trans (hb2.mono hb1.size)⟩
    · rw [if_neg h0]
      have hx : ((N : Int) == 0) = false := beq_eq_false_iff_ne.2 (by omega)
      go_enter Tryz.func33, Tryz.ntmps33
      go_wp2_with (first | (go_at_call 60; refine (implTextOk_any _ _ hs hT).mono ?_; rintro e w1 ⟨rfl, hb1⟩; rw [hk]) | (go_at_call 34; refine (trimBlanks_to s T _ HTR.out).mono ?_; rintro e w2 ⟨rfl, hb2⟩) | (go_at_call 43; refine (decEnd_to' T N _ hT2 HTN.out).mono ?_; rintro e w3 ⟨rfl, rfl⟩))
      go_ret
      refine ⟨ret_int ?_, hb1.trans (hb2.mono hb1.size)⟩
      have := HTS.out
      omega
end Go.Proofs.YtjjpdoabagnmoaaGreatDoor
/-
  The contracts of Prefix, both sides': the number that a text begins with. Conditions: a string no longer than 2 to the 40; for the program's the tables of unicode utf8 stand in memory and the library's variable MaxLen holds an int.
-/
namespace Go.Proofs.YtjjpdoabagnmoaaGreatDoor
open Go.RowKit
set_option linter.unusedVariables false
set_option linter.unusedSimpArgs false

theorem blN_take : ∀ (l : List UInt8) (k : Nat), blN l ≤ k → blN (l.take k) = blN l
  | [], k, _ => by simp
  | c :: l, k, h => by
    rw [blN] at h ⊢
    by_cases hc : isBl c = true
    · rw [if_pos hc] at h ⊢
      obtain ⟨j, rfl⟩ : ∃ j, k = j + 1 := ⟨k - 1, by omega⟩
      rw [List.take_succ_cons, blN, if_pos hc, blN_take l j (by omega)]
    · rw [if_neg hc]
      cases k with
      | zero => rfl
      | succ j => rw [List.take_succ_cons, blN, if_neg hc]
/-- what a text's number and code are -/
def PreRes (l : List UInt8) (n : Bool) (u : ByteArray) (y c : Int) : Prop :=
  (preE l = -1 ∧ n = false ∧ u = ⟨#[]⟩ ∧ y = 0 ∧ c = 3) ∨ (preE l = 0 ∧ n = false ∧ u = ⟨#[]⟩ ∧ y = 0 ∧ c = 0) ∨
  (okT l = true ∧ preE l = ((blN l + scanN (l.drop (blN l)) : Nat) : Int) ∧ 0 < scanN (l.drop (blN l)) ∧ ∃ sg b d1 d2 ex sg2 d3, (l.drop (blN l)).take (scanN (l.drop (blN l))) = sg ++ (b ++ ex) ∧ IsSg sg ∧ IsBody b d1 d2 ∧ IsEx ex sg2 d3 ∧ readV sg d1 d2 sg2 d3 = .tuple #[.agg #[.bool n, .string u, .int .i64 y], .int .i64 c])
theorem preRes_ex (l : List UInt8) : ∃ n u y c, PreRes l n u y c := by
  cases hk : okT l
  · exact ⟨false, ⟨#[]⟩, 0, 3, .inl ⟨by unfold preE; rw [hk]; rfl, rfl, rfl, rfl, rfl⟩⟩
  · by_cases h0 : scanN (l.drop (blN l)) = 0
    · exact ⟨false, ⟨#[]⟩, 0, 0, .inr (.inl ⟨by unfold preE; rw [hk, if_pos rfl, if_pos h0], rfl, rfl, rfl, rfl⟩)⟩
    · obtain ⟨sg, b, d1, d2, ex, sg2, d3, h1, h2, h3, h4⟩ := scan_ahead h0
      obtain ⟨n', u, y', c, hV, -⟩ := formV_lit (decide (sg = [45])) (val (d1 ++ d2)) (exV sg2 d3 - (d2.length : Int))
      exact ⟨n', u, y', c, .inr (.inr ⟨hk, by unfold preE; rw [hk, if_pos rfl, if_neg h0], by omega, sg, b, d1, d2, ex, sg2, d3, h1, h2, h3, h4, hV⟩)⟩
theorem okT_size {s : ByteArray} (h : okT (bs s) = true) : s.size ≤ 1000 := by
  apply Classical.byContradiction
  intro hn
  rw [(okT_long (by rw [bs_length]; omega)).1] at h
  cases h
theorem ext_bs (s : ByteArray) (a b : Nat) : bs (s.extract a b) = ((bs s).take b).drop a := by
  show (s.extract a b).data.toList = _
  rw [ByteArray.data_extract, Array.toList_extract]
  simp only [List.extract_eq_take_drop]
  rw [List.drop_take]
set_option maxRecDepth 10000 in
set_option maxHeartbeats 1000000 in
theorem specPrefix_to (s : ByteArray) (n' : Bool) (u : ByteArray) (y' c : Int) (w : World) (hs : s.size ≤ 1099511627776) (h : PreRes (bs s) n' u y' c) :
    Calls Tryz.prog 8 #[.string s] w fun e w' => e = .returned (.tuple #[.agg #[.bool n', .string u, .int .i64 y'], .int .i64 c]) ∧ Below w.heap.size w w' := by
  have hE := Lib.hid (fun w => specPrefixEnd_any s w hs)
  rcases h with ⟨hp, rfl, rfl, rfl, rfl⟩ | ⟨hp, rfl, rfl, rfl, rfl⟩ | ⟨hk, hp, h0, sg, b, d1, d2, ex, sg2, d3, h1, h2, h3, h4, hV⟩
  · rw [hp] at hE
    go_enter Tryz.func8, Tryz.ntmps8
    go_wp2_with (go_at_call 28; refine (hE.out _).mono ?_; rintro e w1 ⟨rfl, hb1⟩; obtain ⟨hb1c, hb1f⟩ := bcell hb1; have hb1q := hb1.size; (try simp at hb1q); have hb1q0 : w.heap.size < w1.heap.size := (by omega))
    refine bodyPost_ret (v := .tuple #[.agg #[.bool false, .string ⟨#[]⟩, .int .i64 0], .int .i64 3]) (by simp [results, Tryz.results8, go_sem, *]) rfl ⟨rfl, ?_⟩
    go_light
    (repeat (first | exact Below.refl _ _ | assumption | refine Below.drew ?_ | refine below_drewN ?_ _ | (refine Below.alloc ?_ (by first | exact Nat.le_refl _ | (simp; done) | (simp; omega) | (simp at *; omega)) _) | (refine Below.setCell ?_ (by first | exact Nat.le_refl _ | (simp; done) | (simp; omega)) _) | (refine Below.trans ?_ (Below.mono (by assumption) (by first | exact Nat.le_refl _ | (simp; done) | (simp; omega) | (simp at *; omega))))))
  · rw [hp] at hE
    go_enter Tryz.func8, Tryz.ntmps8
    go_wp2_with (go_at_call 28; refine (hE.out _).mono ?_; rintro e w1 ⟨rfl, hb1⟩; obtain ⟨hb1c, hb1f⟩ := bcell hb1; have hb1q := hb1.size; (try simp at hb1q); have hb1q0 : w.heap.size < w1.heap.size := (by omega))
    refine bodyPost_ret (v := .tuple #[.agg #[.bool false, .string ⟨#[]⟩, .int .i64 0], .int .i64 0]) (by simp [results, Tryz.results8, go_sem, *]) rfl ⟨rfl, ?_⟩
    go_light
    (repeat (first | exact Below.refl _ _ | assumption | refine Below.drew ?_ | refine below_drewN ?_ _ | (refine Below.alloc ?_ (by first | exact Nat.le_refl _ | (simp; done) | (simp; omega) | (simp at *; omega)) _) | (refine Below.setCell ?_ (by first | exact Nat.le_refl _ | (simp; done) | (simp; omega)) _) | (refine Below.trans ?_ (Below.mono (by assumption) (by first | exact Nat.le_refl _ | (simp; done) | (simp; omega) | (simp at *; omega))))))
  · rw [hp] at hE
    have hsz := okT_size hk
    have hle2 := scanN_le ((bs s).drop (blN (bs s)))
    have hle := blN_le (bs s)
    rw [List.length_drop, bs_length] at hle2
    rw [bs_length] at hle
    obtain ⟨A, hA⟩ : ∃ A, blN (bs s) = A := ⟨_, rfl⟩
    obtain ⟨N, hN⟩ : ∃ N, scanN ((bs s).drop A) = N := ⟨_, rfl⟩
    rw [hA] at hle2 hle h0 h1 hE
    rw [hN] at hle2 h0 h1 hE
    obtain ⟨E, hEE⟩ : ∃ E, A + N = E := ⟨_, rfl⟩
    rw [hEE] at hE
    have hne1 : ((E : Int) == -1) = false := beq_eq_false_iff_ne.2 (by omega)
    have hne0 : ((E : Int) == 0) = false := beq_eq_false_iff_ne.2 (by omega)
    have hAE : (A : Int) ≤ (E : Int) := by omega
    have hEs : (E : Int) ≤ (s.size : Int) := by omega
    have hbx : bs (s.extract A E) = sg ++ (b ++ ex) := by rw [ext_bs, List.drop_take, show E - A = N by omega, h1]
    have hxs : (s.extract A E).size ≤ 1048576 := by rw [← bs_length, ext_bs, List.length_drop, List.length_take, bs_length]; omega
    have hR := Lib.hid (fun w => by
      have := l03Read_any (s.extract A E) sg b d1 d2 ex sg2 d3 w hxs hbx h2 h3 h4
      rw [hV] at this
      exact this : ∀ w : World, Calls Tryz.prog 29 #[.string (s.extract A E)] w fun e w' => e = .returned (.tuple #[.agg #[.bool n', .string u, .int .i64 y'], .int .i64 c]) ∧ Below w.heap.size w w')
    have hS := Lib.hid (fun w => l04Start_to s A w hs hA)
    clear hp hk h1 h2 h3 h4 hV hA hN hEE hbx hxs hle hle2
    go_enter Tryz.func8, Tryz.ntmps8
    go_wp2_with fail
    obtain ⟨w0, hw0, hz0, hv0, hc0, hf0⟩ := one_laid w false ⟨#[]⟩ 0
    rw [hw0]
    clear hw0
    refine (hE.out _).mono ?_
    rintro e w1 ⟨rfl, hb1⟩
    obtain ⟨hz1, hc1, hf1⟩ := one_kept hb1 hz0 hc0 hf0
    have hv1 := hv0.trans (hb1.mono hv0.size)
    clear hb1 hz0 hc0 hf0 hv0
    go_wp2_with fail
    refine (hS.out _).mono ?_
    rintro e w2 ⟨rfl, hw2⟩
    subst hw2
    go_wp2_with fail
    refine (hR.out _).mono ?_
    rintro e w3 ⟨rfl, hb3⟩
    obtain ⟨hz3, hc3, hf3⟩ := one_kept hb3 hz1 hc1 hf1
    have hv3 := hv1.trans (hb3.mono hv1.size)
    clear hb3 hz1 hc1 hf1 hv1
    go_wp2
    refine bodyPost_ret (v := .tuple #[.agg #[.bool n', .string u, .int .i64 y'], .int .i64 c]) (by simp [results, Tryz.results8, go_sem, *]) rfl ⟨rfl, ?_⟩
    exact set_three hv3 (Nat.le_refl w.heap.size) _ _ _
set_option maxRecDepth 10000 in
set_option maxHeartbeats 1000000 in
theorem implprefix_to (s : ByteArray) (n' : Bool) (u : ByteArray) (y' c : Int) (w : World) (hs : s.size ≤ 1099511627776) (hT : Tabs w) (hM : MaxCell w) (h : PreRes (bs s) n' u y' c) :
    Calls Tryz.prog 31 #[.string s] w fun e w' => e = .returned (.tuple #[.agg #[.bool n', .string u, .int .i64 y'], .int .i64 c]) ∧ Below w.heap.size w w' := by
  have hE := Lib.hid (fun w hT => implPrefixEnd_any s w hs hT)
  have HT := Lib.hid (hT.below ((Below.refl _ w).alloc (Nat.le_refl _) (Obj.cells #[.bool false, .string ⟨#[]⟩, .int .i64 0] 23)))
  rcases h with ⟨hp, rfl, rfl, rfl, rfl⟩ | ⟨hp, rfl, rfl, rfl, rfl⟩ | ⟨hk, hp, h0, sg, b, d1, d2, ex, sg2, d3, h1, h2, h3, h4, hV⟩
  · rw [hp] at hE
    go_enter Tryz.func31, Tryz.ntmps31
    go_wp2_with (go_at_call 33; refine (hE.out _ HT.out).mono ?_; rintro e w1 ⟨rfl, hb1⟩; obtain ⟨hb1c, hb1f⟩ := bcell hb1; have hb1q := hb1.size; (try simp at hb1q); have hb1q0 : w.heap.size < w1.heap.size := (by omega))
    refine bodyPost_ret (v := .tuple #[.agg #[.bool false, .string ⟨#[]⟩, .int .i64 0], .int .i64 3]) (by simp [results, Tryz.results31, go_sem, *]) rfl ⟨rfl, ?_⟩
    go_light
    (repeat (first | exact Below.refl _ _ | assumption | refine Below.drew ?_ | refine below_drewN ?_ _ | (refine Below.alloc ?_ (by first | exact Nat.le_refl _ | (simp; done) | (simp; omega) | (simp at *; omega)) _) | (refine Below.setCell ?_ (by first | exact Nat.le_refl _ | (simp; done) | (simp; omega)) _) | (refine Below.trans ?_ (Below.mono (by assumption) (by first | exact Nat.le_refl _ | (simp; done) | (simp; omega) | (simp at *; omega))))))
  · rw [hp] at hE
    go_enter Tryz.func31, Tryz.ntmps31
    go_wp2_with (go_at_call 33; refine (hE.out _ HT.out).mono ?_; rintro e w1 ⟨rfl, hb1⟩; obtain ⟨hb1c, hb1f⟩ := bcell hb1; have hb1q := hb1.size; (try simp at hb1q); have hb1q0 : w.heap.size < w1.heap.size := (by omega))
    refine bodyPost_ret (v := .tuple #[.agg #[.bool false, .string ⟨#[]⟩, .int .i64 0], .int .i64 0]) (by simp [results, Tryz.results31, go_sem, *]) rfl ⟨rfl, ?_⟩
    go_light
    (repeat (first | exact Below.refl _ _ | assumption | refine Below.drew ?_ | refine below_drewN ?_ _ | (refine Below.alloc ?_ (by first | exact Nat.le_refl _ | (simp; done) | (simp; omega) | (simp at *; omega)) _) | (refine Below.setCell ?_ (by first | exact Nat.le_refl _ | (simp; done) | (simp; omega)) _) | (refine Below.trans ?_ (Below.mono (by assumption) (by first | exact Nat.le_refl _ | (simp; done) | (simp; omega) | (simp at *; omega))))))
  · rw [hp] at hE
    have hsz := okT_size hk
    have hle2 := scanN_le ((bs s).drop (blN (bs s)))
    have hle := blN_le (bs s)
    rw [List.length_drop, bs_length] at hle2
    rw [bs_length] at hle
    obtain ⟨A, hA⟩ : ∃ A, blN (bs s) = A := ⟨_, rfl⟩
    obtain ⟨N, hN⟩ : ∃ N, scanN ((bs s).drop A) = N := ⟨_, rfl⟩
    rw [hA] at hle2 hle h0 h1 hE
    rw [hN] at hle2 h0 h1 hE
    obtain ⟨E, hEE⟩ : ∃ E, A + N = E := ⟨_, rfl⟩
    rw [hEE] at hE
    have hne1 : ¬ ((E : Int) < 0) := by omega
    have hne0 : ((E : Int) == 0) = false := beq_eq_false_iff_ne.2 (by omega)
    have hEs : (E : Int) ≤ (s.size : Int) := by omega
    have hTl := size_ofL (sg ++ (b ++ ex))
    have hTl2 := congrArg List.length h1
    rw [List.length_take] at hTl2
    obtain ⟨T, hT1⟩ : ∃ T, ofL (sg ++ (b ++ ex)) = T := ⟨_, rfl⟩
    have hTb : bs T = sg ++ (b ++ ex) := by rw [← hT1, bs_ofL]
    have hTs : T.size ≤ 1048576 := by rw [← hT1, hTl]; omega
    have hft : bs (s.extract 0 E) = (bs s).take E := bs_front s E
    have HTR := Lib.hid (show (bs (s.extract 0 E)).drop (blN (bs (s.extract 0 E))) = bs T by
      rw [hft, blN_take _ _ (by rw [hA]; omega), hA, List.drop_take, show E - A = N by omega, h1, hTb])
    have hR := Lib.hid (fun w hM => by
      have := decRead_any T sg b d1 d2 ex sg2 d3 w hM hTs hTb h2 h3 h4
      rw [hV] at this
      exact this : ∀ w : World, MaxCell w → Calls Tryz.prog 44 #[.string T] w fun e w' => e = .returned (.tuple #[.agg #[.bool n', .string u, .int .i64 y'], .int .i64 c]) ∧ Below w.heap.size w w')
    clear hp hk h1 h2 h3 h4 hV hA hN hEE hle hle2 hTl hTl2 hT1 hTb hft HT
    go_enter Tryz.func31, Tryz.ntmps31
    go_wp2_with fail
    obtain ⟨w0, hw0, hz0, hv0, hc0, hf0⟩ := one_laid w false ⟨#[]⟩ 0
    rw [hw0]
    clear hw0
    refine (hE.out _ (hT.below hv0)).mono ?_
    rintro e w1 ⟨rfl, hb1⟩
    obtain ⟨hz1, hc1, hf1⟩ := one_kept hb1 hz0 hc0 hf0
    have hv1 := hv0.trans (hb1.mono hv0.size)
    clear hb1 hz0 hc0 hf0 hv0
    go_wp2_with fail
    refine (trimBlanks_to _ T _ HTR.out).mono ?_
    rintro e w2 ⟨rfl, hb2⟩
    obtain ⟨hz2, hc2, hf2⟩ := one_kept hb2 hz1 hc1 hf1
    have hv2 := hv1.trans (hb2.mono hv1.size)
    clear hb2 hz1 hc1 hf1 hv1
    go_wp2_with fail
    refine (hR.out _ (hM.below hv2)).mono ?_
    rintro e w3 ⟨rfl, hb3⟩
    obtain ⟨hz3, hc3, hf3⟩ := one_kept hb3 hz2 hc2 hf2
    have hv3 := hv2.trans (hb3.mono hv2.size)
    clear hb3 hz2 hc2 hf2 hv2
    go_wp2
    refine bodyPost_ret (v := .tuple #[.agg #[.bool n', .string u, .int .i64 y'], .int .i64 c]) (by simp [results, Tryz.results31, go_sem, *]) rfl ⟨rfl, ?_⟩
    exact set_three hv3 (Nat.le_refl w.heap.size) _ _ _
theorem implPrefix_to (s : ByteArray) (n' : Bool) (u : ByteArray) (y' c : Int) (w : World) (hs : s.size ≤ 1099511627776) (hT : Tabs w) (hM : MaxCell w) (h : PreRes (bs s) n' u y' c) :
    Calls Tryz.prog 9 #[.string s] w fun e w' => e = .returned (.tuple #[.agg #[.bool n', .string u, .int .i64 y'], .int .i64 c]) ∧ Below w.heap.size w w' := by
  go_enter Tryz.func9, Tryz.ntmps9
  go_wp2_with fail
  obtain ⟨w0, hw0, hz0, hv0, hc0, hf0⟩ := one_laid w false ⟨#[]⟩ 0
  rw [hw0]
  clear hw0
  refine (implprefix_to s n' u y' c _ hs (hT.below hv0) (hM.below hv0) h).mono ?_
  rintro e w1 ⟨rfl, hb1⟩
  obtain ⟨hz1, hc1, hf1⟩ := one_kept hb1 hz0 hc0 hf0
  have hv1 := hv0.trans (hb1.mono hv0.size)
  clear hb1 hz0 hc0 hf0 hv0
  go_wp2
  refine bodyPost_ret (v := .tuple #[.agg #[.bool n', .string u, .int .i64 y'], .int .i64 c]) (by simp [results, Tryz.results9, go_sem, *]) rfl ⟨rfl, ?_⟩
  exact set_three hv1 (Nat.le_refl w.heap.size) _ _ _
end Go.Proofs.YtjjpdoabagnmoaaGreatDoor
/-
  The contracts of Looks, both sides'. Conditions: as in the text on Prefix.
-/
namespace Go.Proofs.YtjjpdoabagnmoaaGreatDoor
open Go.RowKit
set_option linter.unusedVariables false
set_option linter.unusedSimpArgs false

/-- nothing but blanks stands from a place on -/
def tailB (l : List UInt8) (k : Nat) : Bool := decide (k + blN (l.drop k) = l.length)
/-- a text looks like a number -/
def lookB (l : List UInt8) (c : Int) : Bool := decide (0 < preE l) && (decide (c = 0) && tailB l (preE l).toNat)
theorem preE_le (l : List UInt8) : -1 ≤ preE l ∧ preE l ≤ l.length := by
  have h1 := blN_le l
  have h2 := scanN_le (l.drop (blN l))
  rw [List.length_drop] at h2
  unfold preE
  split
  · split <;> omega
  · omega
theorem blN_full {l : List UInt8} (h : blN l = l.length) : l.drop (blN l) = [] := List.drop_of_length_le (by omega)
set_option maxRecDepth 10000 in
set_option maxHeartbeats 1000000 in
theorem specLooks_to (s : ByteArray) (n' : Bool) (u : ByteArray) (y' c : Int) (w : World) (hs : s.size ≤ 1099511627776) (h : PreRes (bs s) n' u y' c) :
    Calls Tryz.prog 11 #[.string s] w fun e w' => e = .returned (.bool (lookB (bs s) c)) ∧ Below w.heap.size w w' := by
  have hE := Lib.hid (fun w => specPrefixEnd_any s w hs)
  have hP := Lib.hid (fun w => specPrefix_to s n' u y' c w hs h)
  obtain ⟨p1, p2⟩ := preE_le (bs s)
  rw [bs_length] at p2
  obtain ⟨p, hp⟩ : ∃ p, preE (bs s) = p := ⟨_, rfl⟩
  unfold lookB
  rw [hp] at hE p1 p2 ⊢
  clear hp h
  by_cases h1 : p < 1
  · rw [decide_eq_false (show ¬ 0 < p by omega), Bool.false_and]
    go_enter Tryz.func11, Tryz.ntmps11
    go_wp2_with (go_at_call 28; refine (hE.out _).mono ?_; rintro e w1 ⟨rfl, hb1⟩)
    go_ret
    exact ⟨rfl, hb1⟩
  · rw [decide_eq_true (show 0 < p by omega), Bool.true_and]
    obtain ⟨E, rfl⟩ : ∃ E : Nat, p = (E : Int) := ⟨p.toNat, by omega⟩
    rw [Int.toNat_natCast]
    obtain ⟨L, hL⟩ : ∃ L, E + blN ((bs s).drop E) = L := ⟨_, rfl⟩
    have HTB := Lib.hid (show tailB (bs s) E = decide (L = s.size) by unfold tailB; rw [hL, bs_length])
    have HL := Lib.hid hL
    have hEs : E ≤ s.size := by omega
    clear hL p1 p2
    go_enter Tryz.func11, Tryz.ntmps11
    go_wp2_with fail
    refine (hE.out _).mono ?_
    rintro e w1 ⟨rfl, hb1⟩
    go_wp2_with fail
    refine (hP.out _).mono ?_
    rintro e w2 ⟨rfl, hb2⟩
    have HB := Lib.hid (hb1.trans (hb2.mono hb1.size))
    have hlo : w.heap.size ≤ w2.heap.size := HB.out.size
    clear hb1 hb2
    go_wp2
    go_loop [6] (fun i => ∃ k : Nat, k ≤ s.size ∧ i = .int .i64 (k : Int) ∧ k + blN ((bs s).drop k) = L) (fun i => s.size - (intOf i).toNat)
    case atStart => exact ⟨E, hEs, rfl, HL.out⟩
    case round =>
      obtain ⟨k, hk, rfl, hr⟩ := hrel
      have HR := Lib.hid hr
      clear hr
      by_cases hlt : k < s.size
      · cases hd : isBl s[k]
        · have HK := Lib.hid (bl_out hlt hd HR.out)
          go_wp2_with (go_at_call 32; refine (isBlank_to _ s[k] _ _ (by first | omega | (rw [IntWalk.wrap64_in _ (by have := UInt8.toNat_lt s[k]; omega)])) hd).mono ?_; rintro e w3 ⟨rfl, hw3⟩; subst hw3)
          go_ret
          refine ⟨ret_bool ?_, HB.out.alloc hlo _⟩
          rw [HTB.out, decide_eq_false (show ¬ L = s.size by have := HK.out; omega), Bool.and_false]
        · go_wp2_with (go_at_call 32; refine (isBlank_to _ s[k] _ _ (by first | omega | (rw [IntWalk.wrap64_in _ (by have := UInt8.toNat_lt s[k]; omega)])) hd).mono ?_; rintro e w3 ⟨rfl, hw3⟩; subst hw3)
          go_round
          case rel => exact ⟨k + 1, by omega, by go_num, bl_at hlt hd HR.out⟩
          case measure => simp [intOf]; omega
      · have HK := Lib.hid (bl_over hlt HR.out)
        go_wp2
        go_ret
        refine ⟨ret_bool ?_, HB.out.alloc hlo _⟩
        rw [HTB.out, decide_eq_true (show L = s.size by have := HK.out; omega), Bool.and_true]
        rw [Bool.eq_iff_iff, beq_iff_eq, decide_eq_true_iff]
set_option maxRecDepth 10000 in
set_option maxHeartbeats 1000000 in
theorem implLooks_to (s : ByteArray) (n' : Bool) (u : ByteArray) (y' c : Int) (w : World) (hs : s.size ≤ 1099511627776) (hT : Tabs w) (hM : MaxCell w) (h : PreRes (bs s) n' u y' c) :
    Calls Tryz.prog 12 #[.string s] w fun e w' => e = .returned (.bool (lookB (bs s) c)) ∧ Below w.heap.size w w' := by
  have hE := Lib.hid (fun w hT => implPrefixEnd_any s w hs hT)
  have hP := Lib.hid (fun w hT hM => implprefix_to s n' u y' c w hs hT hM h)
  obtain ⟨p1, p2⟩ := preE_le (bs s)
  rw [bs_length] at p2
  obtain ⟨p, hp⟩ : ∃ p, preE (bs s) = p := ⟨_, rfl⟩
  unfold lookB
  rw [hp] at hE p1 p2 ⊢
  clear hp h
  by_cases h1 : p < 1
  · rw [decide_eq_false (show ¬ 0 < p by omega), Bool.false_and]
    have h2 : ¬ 0 < p := by omega
    go_enter Tryz.func12, Tryz.ntmps12
    go_wp2_with fail
    refine (hE.out _ hT).mono ?_
    rintro e w1 ⟨rfl, hb1⟩
    go_wp2_with fail
    refine (hP.out _ (hT.below hb1) (hM.below hb1)).mono ?_
    rintro e w2 ⟨rfl, hb2⟩
    have hB := hb1.trans (hb2.mono hb1.size)
    have hlo : w.heap.size ≤ w2.heap.size := hB.size
    clear hb1 hb2
    go_wp2
    go_ret
    exact ⟨rfl, hB.alloc hlo _⟩
  · rw [decide_eq_true (show 0 < p by omega), Bool.true_and]
    have h2 : 0 < p := by omega
    obtain ⟨E, rfl⟩ : ∃ E : Nat, p = (E : Int) := ⟨p.toNat, by omega⟩
    rw [Int.toNat_natCast]
    have hEs : (E : Int) ≤ (s.size : Int) := by omega
    cases hc : (c == 0)
    · rw [show decide (c = 0) = false from decide_eq_false (beq_eq_false_iff_ne.1 hc), Bool.false_and]
      clear p1 p2
      go_enter Tryz.func12, Tryz.ntmps12
      go_wp2_with fail
      refine (hE.out _ hT).mono ?_
      rintro e w1 ⟨rfl, hb1⟩
      go_wp2_with fail
      refine (hP.out _ (hT.below hb1) (hM.below hb1)).mono ?_
      rintro e w2 ⟨rfl, hb2⟩
      have hB := hb1.trans (hb2.mono hb1.size)
      have hlo : w.heap.size ≤ w2.heap.size := hB.size
      clear hb1 hb2
      go_wp2
      go_ret
      exact ⟨rfl, hB.alloc hlo _⟩
    · rw [show decide (c = 0) = true from decide_eq_true (beq_iff_eq.1 hc), Bool.true_and]
      obtain ⟨T, hT1⟩ : ∃ T, ofL (((bs s).drop E).drop (blN ((bs s).drop E))) = T := ⟨_, rfl⟩
      have HTR := Lib.hid (show (bs (s.extract E s.size)).drop (blN (bs (s.extract E s.size))) = bs T by rw [bs_ext, ← hT1, bs_ofL])
      have hTs := size_ofL (((bs s).drop E).drop (blN ((bs s).drop E)))
      rw [hT1, List.length_drop, List.length_drop, bs_length] at hTs
      have hbl := blN_le ((bs s).drop E)
      rw [List.length_drop, bs_length] at hbl
      cases ht : tailB (bs s) E
      · have hne : 0 < T.size := by
          unfold tailB at ht
          rw [bs_length, decide_eq_false_iff_not] at ht
          omega
        have hemp := isEmpty_no hne
        clear p1 p2 ht hTs hbl hT1 hne
        go_enter Tryz.func12, Tryz.ntmps12
        go_wp2_with fail
        refine (hE.out _ hT).mono ?_
        rintro e w1 ⟨rfl, hb1⟩
        go_wp2_with fail
        refine (hP.out _ (hT.below hb1) (hM.below hb1)).mono ?_
        rintro e w2 ⟨rfl, hb2⟩
        have hB := hb1.trans (hb2.mono hb1.size)
        have hlo : w.heap.size ≤ w2.heap.size := hB.size
        clear hb1 hb2
        go_wp2_with (go_at_call 34; refine (trimBlanks_to _ T _ HTR.out).mono ?_; rintro e w3 ⟨rfl, hb3⟩; obtain ⟨hb3c, hb3f⟩ := bcell hb3; have hb3q := hb3.size; (try simp at hb3q); (try have hb3q_w20 : w2.heap.size < w3.heap.size := (by omega)))
        go_ret
        exact ⟨rfl, (hB.alloc hlo _).trans (hb3.mono (hB.alloc hlo _).size)⟩
      · have hne : T.size = 0 := by
          unfold tailB at ht
          rw [bs_length, decide_eq_true_iff] at ht
          omega
        have hemp := isEmpty_yes hne
        clear p1 p2 ht hTs hbl hT1 hne
        go_enter Tryz.func12, Tryz.ntmps12
        go_wp2_with fail
        refine (hE.out _ hT).mono ?_
        rintro e w1 ⟨rfl, hb1⟩
        go_wp2_with fail
        refine (hP.out _ (hT.below hb1) (hM.below hb1)).mono ?_
        rintro e w2 ⟨rfl, hb2⟩
        have hB := hb1.trans (hb2.mono hb1.size)
        have hlo : w.heap.size ≤ w2.heap.size := hB.size
        clear hb1 hb2
        go_wp2_with (go_at_call 34; refine (trimBlanks_to _ T _ HTR.out).mono ?_; rintro e w3 ⟨rfl, hb3⟩; obtain ⟨hb3c, hb3f⟩ := bcell hb3; have hb3q := hb3.size; (try simp at hb3q); (try have hb3q_w20 : w2.heap.size < w3.heap.size := (by omega)))
        go_ret
        exact ⟨rfl, (hB.alloc hlo _).trans (hb3.mono (hB.alloc hlo _).size)⟩
end Go.Proofs.YtjjpdoabagnmoaaGreatDoor
/-
  Plain facts: a number's text with blanks ahead and something else behind has that number as its beginning. No program here. Condition: a number in form.
-/
namespace Go.Proofs.YtjjpdoabagnmoaaGreatDoor
open Go.RowKit
set_option linter.unusedVariables false
set_option linter.unusedSimpArgs false

theorem blN_app : ∀ (g l : List UInt8), g.all isBl = true → blN (g ++ l) = g.length + blN l
  | [], l, _ => by simp
  | c :: g, l, h => by
    rw [List.all_cons, Bool.and_eq_true] at h
    rw [List.cons_append, blN, if_pos h.1, blN_app g l h.2, List.length_cons]
    omega
theorem blN_all {g : List UInt8} (h : g.all isBl = true) : blN g = g.length := by
  have := blN_app g [] h
  rw [List.append_nil] at this
  exact this
theorem isBl_dig {c : UInt8} (h : isDig c = true) : isBl c = false := by
  have h1 := (isDig_iff c).1 h
  rw [isBl_int]
  simp
  omega
theorem blN_text {n : Bool} {s : ByteArray} {x : Int} (h : decOk n (bs s) x = true) (r : List UInt8) : blN (textL n (bs s) x ++ r) = 0 := by
  obtain ⟨sg, b, d1, d2, ex, sg2, d3, e, h1, h2, h3, -⟩ := text_parts h
  obtain ⟨c, t, hb, hc⟩ := body_head h2
  have hc2 : isBl c = false := by
    rcases hc with hc | rfl
    · exact isBl_dig hc
    · decide
  rw [e, hb]
  rcases h1 with rfl | rfl | rfl
  · simp only [List.nil_append, List.cons_append]; rw [blN, if_neg (by rw [hc2]; decide)]
  · simp only [List.nil_append, List.cons_append]; rw [blN, if_neg (by decide)]
  · simp only [List.nil_append, List.cons_append]; rw [blN, if_neg (by decide)]
/-- what stands ahead and behind -/
structure Gap (g r : List UInt8) : Prop where
  bl : g.all isBl = true
  no : NoPart r
  pg : Plain g
  pr : Plain r
  lg : g.length ≤ 10
  lr : r.length ≤ 10
theorem gap_pre {n : Bool} {s : ByteArray} {x : Int} (h : decOk n (bs s) x = true) {g r : List UInt8} (hg : Gap g r) :
    PreRes (g ++ (textL n (bs s) x ++ r)) n s x 0 ∧ preE (g ++ (textL n (bs s) x ++ r)) = ((g.length + (textL n (bs s) x).length : Nat) : Int) := by
  have hbl : blN (g ++ (textL n (bs s) x ++ r)) = g.length := by rw [blN_app _ _ hg.bl, blN_text h]; rfl
  have hdr : (g ++ (textL n (bs s) x ++ r)).drop g.length = textL n (bs s) x ++ r := List.drop_left
  have hsc := text_scan h r hg.no
  obtain ⟨l1, l2⟩ := text_len h
  have hok : okT (g ++ (textL n (bs s) x ++ r)) = true := okT_ascii (hg.pg.app ((text_plain h).app hg.pr)) (by
    have := hg.lg; have := hg.lr
    simp only [List.length_append]; omega)
  have hE : preE (g ++ (textL n (bs s) x ++ r)) = ((g.length + (textL n (bs s) x).length : Nat) : Int) := by
    unfold preE
    rw [hok, if_pos rfl, hbl, hdr, hsc, if_neg (by omega)]
  refine ⟨.inr (.inr ⟨hok, ?_, ?_, ?_⟩), hE⟩
  · rw [hE, hbl, hdr, hsc]
  · rw [hbl, hdr, hsc]; omega
  · obtain ⟨sg, b, d1, d2, ex, sg2, d3, e, h1, h2, h3, hV⟩ := text_parts h
    refine ⟨sg, b, d1, d2, ex, sg2, d3, ?_, h1, h2, h3, ?_⟩
    · rw [hbl, hdr, hsc, List.take_left]; exact e
    · rw [hV]
      unfold numV
      rw [ofL_bs]
theorem gap_look {n : Bool} {s : ByteArray} {x : Int} (h : decOk n (bs s) x = true) {g r : List UInt8} (hg : Gap g r) : lookB (g ++ (textL n (bs s) x ++ r)) 0 = decide (blN r = r.length) := by
  obtain ⟨l1, -⟩ := text_len h
  have hE := (gap_pre h hg).2
  unfold lookB tailB
  rw [hE, decide_eq_true (show (0 : Int) < ((g.length + (textL n (bs s) x).length : Nat) : Int) by omega), Bool.true_and, Int.toNat_natCast]
  have hd : (g ++ (textL n (bs s) x ++ r)).drop (g.length + (textL n (bs s) x).length) = r := by
    rw [← List.drop_drop, List.drop_left, List.drop_left]
  rw [hd, show decide ((0 : Int) = 0) = true from rfl, Bool.true_and]
  rw [Bool.eq_iff_iff, decide_eq_true_iff, decide_eq_true_iff]
  simp only [List.length_append]
  omega
theorem gap_of {g r : List UInt8} (h1 : g.all isBl = true) (h2 : NoPart r) (h3 : g.all (fun c => decide (1 ≤ c.toNat) && decide (c.toNat < 128)) = true) (h4 : r.all (fun c => decide (1 ≤ c.toNat) && decide (c.toNat < 128)) = true) (h5 : g.length ≤ 10) (h6 : r.length ≤ 10) : Gap g r :=
  ⟨h1, h2, plain_of h3, plain_of h4, h5, h6⟩
theorem noPart_cons {c : UInt8} {r : List UInt8} (h : (!isDig c && decide (c ≠ 46) && decide (c ≠ 101) && decide (c ≠ 69)) = true) : NoPart (c :: r) := by
  intro d q e
  simp only [List.cons.injEq] at e
  rw [← e.1]
  simp only [Bool.and_eq_true, Bool.not_eq_true', decide_eq_true_eq] at h
  exact ⟨h.1.1.1, h.1.1.2, h.1.2, h.2⟩
/-- the five blanks that are drawn -/
theorem gap_five {v : ByteArray} (h : v = ⟨#[]⟩ ∨ v = ⟨#[32]⟩ ∨ v = ⟨#[9]⟩ ∨ v = ⟨#[10, 32]⟩ ∨ v = ⟨#[13]⟩) : Gap (bs v) (bs v) ∧ Gap (bs v) [122] ∧ v.size ≤ 2 ∧ blN (bs v) = (bs v).length := by
  have hz : NoPart [122] := noPart_cons (by decide)
  rcases h with rfl | rfl | rfl | rfl | rfl
  · exact ⟨gap_of rfl noPart_nil rfl rfl (by decide) (by decide), gap_of rfl hz rfl (by decide) (by decide) (by decide), by decide, rfl⟩
  · exact ⟨gap_of (by decide) (noPart_cons (by decide)) (by decide) (by decide) (by decide) (by decide), gap_of (by decide) hz (by decide) (by decide) (by decide) (by decide), by decide, by decide⟩
  · exact ⟨gap_of (by decide) (noPart_cons (by decide)) (by decide) (by decide) (by decide) (by decide), gap_of (by decide) hz (by decide) (by decide) (by decide) (by decide), by decide, by decide⟩
  · exact ⟨gap_of (by decide) (noPart_cons (by decide)) (by decide) (by decide) (by decide) (by decide), gap_of (by decide) hz (by decide) (by decide) (by decide) (by decide), by decide, by decide⟩
  · exact ⟨gap_of (by decide) (noPart_cons (by decide)) (by decide) (by decide) (by decide) (by decide), gap_of (by decide) hz (by decide) (by decide) (by decide) (by decide), by decide, by decide⟩
end Go.Proofs.YtjjpdoabagnmoaaGreatDoor
/-
  The walk of FnLooksLike, out of the contracts. Conditions: the tables of unicode utf8 stand in memory; the library's variable MaxLen holds an int.
-/
namespace Go.Proofs.YtjjpdoabagnmoaaGreatDoor
open Go.RowKit
set_option linter.unusedVariables false
set_option linter.unusedSimpArgs false

set_option maxRecDepth 10000 in
set_option maxHeartbeats 4000000 in
theorem fnLooksLike_walk (w : World) (hT : Tabs w) (hM : MaxCell w) (a : Option Addr) (len cap : Nat) (z : List Int) (hr : IsRow .u8 w a len cap z) (a2 : Option Addr) (len2 cap2 : Nat) (z2 : List Int) (hr2 : IsRow .u8 w a2 len2 cap2 z2) :
    Calls Tryz.prog 5 #[.slice a len cap, .slice a2 len2 cap2] w fun e w' => e = .returned (.bool true) ∧ Below w.heap.size w w' := by
  obtain ⟨-, -, hmax, -⟩ := isRow_row hr
  obtain ⟨-, -, hmax2, -⟩ := isRow_row hr2
  by_cases hb : 1048576 < len
  · have HBG := Lib.hid (decide_eq_true hb)
    go_enter Tryz.func5, Tryz.ntmps5
    go_wp2_with fail
    refine (big_any a len cap _ hmax).mono ?_
    rintro e w1 ⟨rfl, hw1⟩
    obtain rfl : w = w1 := hw1.symm
    rw [HBG.out]
    go_wp2
    go_ret
    exact ⟨rfl, Below.refl _ _⟩
  · have HBG := Lib.hid (decide_eq_false hb)
    by_cases hb2 : 1048576 < len2
    · have HBG2 := Lib.hid (decide_eq_true hb2)
      go_enter Tryz.func5, Tryz.ntmps5
      go_wp2_with fail
      refine (big_any a len cap _ hmax).mono ?_
      rintro e w1 ⟨rfl, hw1⟩
      obtain rfl : w = w1 := hw1.symm
      rw [HBG.out]
      go_wp2_with fail
      refine (big_any a2 len2 cap2 _ hmax2).mono ?_
      rintro e w1 ⟨rfl, hw1⟩
      obtain rfl : w = w1 := hw1.symm
      rw [HBG2.out]
      go_wp2
      go_ret
      exact ⟨rfl, Below.refl _ _⟩
    · have HBG2 := Lib.hid (decide_eq_false hb2)
      go_enter Tryz.func5, Tryz.ntmps5
      go_wp2_with fail
      refine (big_any a len cap _ hmax).mono ?_
      rintro e w1 ⟨rfl, hw1⟩
      obtain rfl : w = w1 := hw1.symm
      rw [HBG.out]
      go_wp2_with fail
      refine (big_any a2 len2 cap2 _ hmax2).mono ?_
      rintro e w1 ⟨rfl, hw1⟩
      obtain rfl : w = w1 := hw1.symm
      rw [HBG2.out]
      go_wp2_with fail
      refine (drawDecText_any a len cap z _ hr (by omega)).mono ?_
      rintro e w2 ⟨n, s, x, rfl, hs, hx, hb2'⟩
      have hsm : s.size ≤ maxLen := by unfold maxLen; omega
      have hxw := wf_of hx
      go_wp2_with fail
      obtain ⟨w3, hw3, hz3, hv3, hc3, hf3⟩ := one_laid w2 n s x
      rw [hw3]
      have hB3 := hb2'.trans (hv3.mono hb2'.size)
      clear hw3 hv3 hb2'
      refine (specDecOk_any n s x _ hsm hxw).mono ?_
      rintro e w4 ⟨rfl, hb4⟩
      obtain ⟨hz4, hc4, hf4⟩ := one_kept hb4 hz3 hc3 hf3
      have hB4 := hB3.trans (hb4.mono hB3.size)
      clear hb4 hz3 hc3 hf3 hB3
      cases hk : decOk n (bs s) x
      · go_wp2
        go_ret
        exact ⟨rfl, hB4⟩
      · obtain ⟨l1, l2⟩ := text_len hk
        have hzz := size_ofL (textL n (bs s) x)
        obtain ⟨T, hTT⟩ : ∃ T, ofL (textL n (bs s) x) = T := ⟨_, rfl⟩
        have hTb : bs T = textL n (bs s) x := by rw [← hTT, bs_ofL]
        rw [hTT] at hzz
        have hTs : T.size ≤ 200 := by omega
        have HTT := Lib.hid hTT
        have HTB := Lib.hid hTb
        clear hzz l1 l2 hTT hTb
        go_wp2_with fail
        refine (specDecText_yes n s x _ hsm hxw hk).mono ?_
        rintro e w5 ⟨rfl, hb5⟩
        rw [HTT.out]
        obtain ⟨hz5, hc5, hf5⟩ := one_kept hb5 hz4 hc4 hf4
        have hB5 := hB4.trans (hb5.mono hB4.size)
        clear hb5 hz4 hc4 hf4 hB4
        go_wp2_with fail
        have hal : Below w5.heap.size w5 (w5.alloc (.cells #[.string ⟨#[]⟩, .string ⟨#[32]⟩, .string ⟨#[9]⟩, .string ⟨#[10, 32]⟩, .string ⟨#[13]⟩] 9)) := (Below.refl _ _).alloc (Nat.le_refl _) _
        refine (lawPick_any a2 len2 cap2 z2 1 5 _ (hr2.below (hB5.trans (hal.mono hB5.size))) (by omega) (by omega) (by omega) (by omega)).mono ?_
        rintro e w6 ⟨r, rfl, hr5, hb6⟩
        have hsz6 : w5.heap.size < w6.heap.size := by have := hb6.size; simp at this; omega
        obtain ⟨v, hv, hvv⟩ : ∃ v : ByteArray, w6.cell? ⟨w5.heap.size, r, none⟩ = some (.string v) ∧ (v = ⟨#[]⟩ ∨ v = ⟨#[32]⟩ ∨ v = ⟨#[9]⟩ ∨ v = ⟨#[10, 32]⟩ ∨ v = ⟨#[13]⟩) := by
          rw [hb6.cell (p := ⟨w5.heap.size, r, none⟩) (by simp), new_cell]
          rcases (by omega : r = 0 ∨ r = 1 ∨ r = 2 ∨ r = 3 ∨ r = 4) with rfl | rfl | rfl | rfl | rfl
          · exact ⟨_, rfl, .inl rfl⟩
          · exact ⟨_, rfl, .inr (.inl rfl)⟩
          · exact ⟨_, rfl, .inr (.inr (.inl rfl))⟩
          · exact ⟨_, rfl, .inr (.inr (.inr (.inl rfl)))⟩
          · exact ⟨_, rfl, .inr (.inr (.inr (.inr rfl)))⟩
        have hb56 := hal.trans (hb6.mono hal.size)
        obtain ⟨hz6, hc6, hf6⟩ := one_kept hb56 hz5 hc5 hf5
        have hB6 := hB5.trans (hb56.mono hB5.size)
        obtain ⟨g1, g2, g3, g4⟩ := gap_five hvv
        have hr5' : (r : Int) < 5 := by omega
        have no1 : ¬ (9223372036854775807 < v.size + T.size) := by omega
        have no2 : ¬ (9223372036854775807 < v.size + T.size + v.size) := by omega
        have no3 : ¬ (9223372036854775807 < v.size + T.size + 1) := by omega
        have e1 : bs (v ++ T ++ v) = bs v ++ (textL n (bs s) x ++ bs v) := by rw [bs_app, bs_app, HTB.out, List.append_assoc]
        have e2 : bs (v ++ T ++ ⟨#[122]⟩) = bs v ++ (textL n (bs s) x ++ [122]) := by rw [bs_app, bs_app, HTB.out, List.append_assoc]
        have z1 : (v ++ T ++ v).size ≤ 1099511627776 := by rw [ByteArray.size_append, ByteArray.size_append]; omega
        have z2 : (v ++ T ++ ⟨#[122]⟩).size ≤ 1099511627776 := by rw [ByteArray.size_append, ByteArray.size_append]; show v.size + T.size + 1 ≤ _; omega
        have p1 : PreRes (bs (v ++ T ++ v)) n s x 0 := by rw [e1]; exact (gap_pre hk g1).1
        have p2 : PreRes (bs (v ++ T ++ ⟨#[122]⟩)) n s x 0 := by rw [e2]; exact (gap_pre hk g2).1
        have HP1 := Lib.hid (fun w hT hM => implPrefix_to (v ++ T ++ v) n s x 0 w z1 hT hM p1)
        have HP2 := Lib.hid (fun w hT hM => implPrefix_to (v ++ T ++ ⟨#[122]⟩) n s x 0 w z2 hT hM p2)
        have HL1 := Lib.hid (fun w hT hM => by
          have := implLooks_to (v ++ T ++ v) n s x 0 w z1 hT hM p1
          rw [e1, gap_look hk g1, decide_eq_true g4] at this
          exact this : ∀ w : World, Tabs w → MaxCell w → Calls Tryz.prog 12 #[.string (v ++ T ++ v)] w fun e w' => e = .returned (.bool true) ∧ Below w.heap.size w w')
        have HL2 := Lib.hid (fun w hT hM => by
          have := implLooks_to (v ++ T ++ ⟨#[122]⟩) n s x 0 w z2 hT hM p2
          rw [e2, gap_look hk g2, show decide (blN [122] = ([122] : List UInt8).length) = false from rfl] at this
          exact this : ∀ w : World, Tabs w → MaxCell w → Calls Tryz.prog 12 #[.string (v ++ T ++ ⟨#[122]⟩)] w fun e w' => e = .returned (.bool false) ∧ Below w.heap.size w w')
        clear e1 e2 z1 z2 p1 p2 g1 g2 g4 hvv hb56 hb6 hal hz5 hc5 hf5 hB5 HTB
        go_wp2_with fail
        refine (HP1.out _ (hT.below hB6) (hM.below hB6)).mono ?_
        rintro e w7 ⟨rfl, hb7⟩
        obtain ⟨hz7, hc7, hf7⟩ := one_kept hb7 hz6 hc6 hf6
        have hB7 := hB6.trans (hb7.mono hB6.size)
        clear hb7 hz6 hc6 hf6 hB6 hv hsz6
        go_wp2_with fail
        obtain ⟨w8, hw8, hz8, hv8, hc8, hf8⟩ := one_laid w7 n s x
        rw [hw8]
        obtain ⟨hy8, hd8, hg8⟩ := one_kept hv8 hz7 hc7 hf7
        have hB8 := hB7.trans (hv8.mono hB7.size)
        clear hw8 hv8 hz7 hc7 hf7 hB7
        refine (HP2.out _ (hT.below hB8) (hM.below hB8)).mono ?_
        rintro e w9 ⟨rfl, hb9⟩
        obtain ⟨hz9, hc9, hf9⟩ := one_kept hb9 hz8 hc8 hf8
        obtain ⟨hy9, hd9, hg9⟩ := one_kept hb9 hy8 hd8 hg8
        have hB9 := hB8.trans (hb9.mono hB8.size)
        clear hb9 hz8 hc8 hf8 hy8 hd8 hg8 hB8
        go_wp2_with fail
        obtain ⟨w10, hw10, hz10, hv10, hc10, hf10⟩ := one_laid w9 n s x
        rw [hw10]
        obtain ⟨hx10, he10, hh10⟩ := one_kept hv10 hz9 hc9 hf9
        obtain ⟨hy10, hd10, hg10⟩ := one_kept hv10 hy9 hd9 hg9
        have hB10 := hB9.trans (hv10.mono hB9.size)
        clear hw10 hv10 hz9 hc9 hf9 hy9 hd9 hg9 hB9
        refine (HL1.out _ (hT.below hB10) (hM.below hB10)).mono ?_
        rintro e w11 ⟨rfl, hb11⟩
        obtain ⟨hz11, hc11, hf11⟩ := one_kept hb11 hz10 hc10 hf10
        obtain ⟨hx11, he11, hh11⟩ := one_kept hb11 hx10 he10 hh10
        obtain ⟨hy11, hd11, hg11⟩ := one_kept hb11 hy10 hd10 hg10
        have hB11 := hB10.trans (hb11.mono hB10.size)
        clear hb11 hz10 hc10 hf10 hx10 he10 hh10 hy10 hd10 hg10 hB10
        go_wp2_with fail
        refine (HL2.out _ (hT.below hB11) (hM.below hB11)).mono ?_
        rintro e w12 ⟨rfl, hb12⟩
        obtain ⟨hz12, hc12, hf12⟩ := one_kept hb12 hz11 hc11 hf11
        obtain ⟨hx12, he12, hh12⟩ := one_kept hb12 hx11 he11 hh11
        obtain ⟨hy12, hd12, hg12⟩ := one_kept hb12 hy11 hd11 hg11
        have hB12 := hB11.trans (hb12.mono hB11.size)
        clear hb12 hz11 hc11 hf11 hx11 he11 hh11 hy11 hd11 hg11 hB11
        go_wp2
        go_ret
        refine ⟨?_, hB12⟩
        simp
end Go.Proofs.YtjjpdoabagnmoaaGreatDoor

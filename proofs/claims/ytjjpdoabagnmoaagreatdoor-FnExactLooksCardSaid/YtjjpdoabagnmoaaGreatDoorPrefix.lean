/-
  The contracts of Prefix, both sides': the number that a text begins with. Conditions: a string no longer than 2 to the 40; for the program's the tables of unicode utf8 stand in memory and the library's variable MaxLen holds an int.
-/
import Derived.Test.YtjjpdoabagnmoaaGreatDoorPrefixEnd
import Derived.Test.YtjjpdoabagnmoaaGreatDoorReadI
import Derived.Test.YtjjpdoabagnmoaaGreatDoorReadS
namespace Go.Proofs.YtjjpdoabagnmoaaGreatDoor
open Go.RowKit
set_option linter.unusedVariables false
set_option linter.unusedSimpArgs false

theorem blN_take : ∀ (l : List UInt8) (k : Nat), blN l ≤ k → blN (l.take k) = blN l
  | [], k, _ => by simp
  | c :: l, k, h => by
    rw [blN] at h ⊢
    by_cases hc : isBl c = true
    · rw [if_pos hc] at h ⊢
      obtain ⟨j, rfl⟩ : ∃ j, k = j + 1 := ⟨k - 1, by omega⟩
      rw [List.take_succ_cons, blN, if_pos hc, blN_take l j (by omega)]
    · rw [if_neg hc]
      cases k with
      | zero => rfl
      | succ j => rw [List.take_succ_cons, blN, if_neg hc]
/-- what a text's number and code are -/
def PreRes (l : List UInt8) (n : Bool) (u : ByteArray) (y c : Int) : Prop :=
  (preE l = -1 ∧ n = false ∧ u = ⟨#[]⟩ ∧ y = 0 ∧ c = 3) ∨ (preE l = 0 ∧ n = false ∧ u = ⟨#[]⟩ ∧ y = 0 ∧ c = 0) ∨
  (okT l = true ∧ preE l = ((blN l + scanN (l.drop (blN l)) : Nat) : Int) ∧ 0 < scanN (l.drop (blN l)) ∧ ∃ sg b d1 d2 ex sg2 d3, (l.drop (blN l)).take (scanN (l.drop (blN l))) = sg ++ (b ++ ex) ∧ IsSg sg ∧ IsBody b d1 d2 ∧ IsEx ex sg2 d3 ∧ readV sg d1 d2 sg2 d3 = .tuple #[.agg #[.bool n, .string u, .int .i64 y], .int .i64 c])
theorem preRes_ex (l : List UInt8) : ∃ n u y c, PreRes l n u y c := by
  cases hk : okT l
  · exact ⟨false, ⟨#[]⟩, 0, 3, .inl ⟨by unfold preE; rw [hk]; rfl, rfl, rfl, rfl, rfl⟩⟩
  · by_cases h0 : scanN (l.drop (blN l)) = 0
    · exact ⟨false, ⟨#[]⟩, 0, 0, .inr (.inl ⟨by unfold preE; rw [hk, if_pos rfl, if_pos h0], rfl, rfl, rfl, rfl⟩)⟩
    · obtain ⟨sg, b, d1, d2, ex, sg2, d3, h1, h2, h3, h4⟩ := scan_ahead h0
      obtain ⟨n', u, y', c, hV, -⟩ := formV_lit (decide (sg = [45])) (val (d1 ++ d2)) (exV sg2 d3 - (d2.length : Int))
      exact ⟨n', u, y', c, .inr (.inr ⟨hk, by unfold preE; rw [hk, if_pos rfl, if_neg h0], by omega, sg, b, d1, d2, ex, sg2, d3, h1, h2, h3, h4, hV⟩)⟩
theorem okT_size {s : ByteArray} (h : okT (bs s) = true) : s.size ≤ 1000 := by
  apply Classical.byContradiction
  intro hn
  rw [(okT_long (by rw [bs_length]; omega)).1] at h
  cases h
theorem ext_bs (s : ByteArray) (a b : Nat) : bs (s.extract a b) = ((bs s).take b).drop a := by
  show (s.extract a b).data.toList = _
  rw [ByteArray.data_extract, Array.toList_extract]
  simp only [List.extract_eq_take_drop]
  rw [List.drop_take]
set_option maxRecDepth 10000 in
set_option maxHeartbeats 1000000 in
theorem specPrefix_to (s : ByteArray) (n' : Bool) (u : ByteArray) (y' c : Int) (w : World) (hs : s.size ≤ 1099511627776) (h : PreRes (bs s) n' u y' c) :
    Calls Tryz.prog 8 #[.string s] w fun e w' => e = .returned (.tuple #[.agg #[.bool n', .string u, .int .i64 y'], .int .i64 c]) ∧ Below w.heap.size w w' := by
  have hE := Lib.hid (fun w => specPrefixEnd_any s w hs)
  rcases h with ⟨hp, rfl, rfl, rfl, rfl⟩ | ⟨hp, rfl, rfl, rfl, rfl⟩ | ⟨hk, hp, h0, sg, b, d1, d2, ex, sg2, d3, h1, h2, h3, h4, hV⟩
  · rw [hp] at hE
    go_enter Tryz.func8, Tryz.ntmps8
    go_wp2_with (go_at_call 28; refine (hE.out _).mono ?_; rintro e w1 ⟨rfl, hb1⟩; obtain ⟨hb1c, hb1f⟩ := bcell hb1; have hb1q := hb1.size; (try simp at hb1q); have hb1q0 : w.heap.size < w1.heap.size := (by omega))
    refine bodyPost_ret (v := .tuple #[.agg #[.bool false, .string ⟨#[]⟩, .int .i64 0], .int .i64 3]) (by simp [results, Tryz.results8, go_sem, *]) rfl ⟨rfl, ?_⟩
    go_light
    (repeat (first | exact Below.refl _ _ | assumption | refine Below.drew ?_ | refine below_drewN ?_ _ | (refine Below.alloc ?_ (by first | exact Nat.le_refl _ | (simp; done) | (simp; omega) | (simp at *; omega)) _) | (refine Below.setCell ?_ (by first | exact Nat.le_refl _ | (simp; done) | (simp; omega)) _) | (refine Below.trans ?_ (Below.mono (by assumption) (by first | exact Nat.le_refl _ | (simp; done) | (simp; omega) | (simp at *; omega))))))
  · rw [hp] at hE
    go_enter Tryz.func8, Tryz.ntmps8
    go_wp2_with (go_at_call 28; refine (hE.out _).mono ?_; rintro e w1 ⟨rfl, hb1⟩; obtain ⟨hb1c, hb1f⟩ := bcell hb1; have hb1q := hb1.size; (try simp at hb1q); have hb1q0 : w.heap.size < w1.heap.size := (by omega))
    refine bodyPost_ret (v := .tuple #[.agg #[.bool false, .string ⟨#[]⟩, .int .i64 0], .int .i64 0]) (by simp [results, Tryz.results8, go_sem, *]) rfl ⟨rfl, ?_⟩
    go_light
    (repeat (first | exact Below.refl _ _ | assumption | refine Below.drew ?_ | refine below_drewN ?_ _ | (refine Below.alloc ?_ (by first | exact Nat.le_refl _ | (simp; done) | (simp; omega) | (simp at *; omega)) _) | (refine Below.setCell ?_ (by first | exact Nat.le_refl _ | (simp; done) | (simp; omega)) _) | (refine Below.trans ?_ (Below.mono (by assumption) (by first | exact Nat.le_refl _ | (simp; done) | (simp; omega) | (simp at *; omega))))))
  · rw [hp] at hE
    have hsz := okT_size hk
    have hle2 := scanN_le ((bs s).drop (blN (bs s)))
    have hle := blN_le (bs s)
    rw [List.length_drop, bs_length] at hle2
    rw [bs_length] at hle
    obtain ⟨A, hA⟩ : ∃ A, blN (bs s) = A := ⟨_, rfl⟩
    obtain ⟨N, hN⟩ : ∃ N, scanN ((bs s).drop A) = N := ⟨_, rfl⟩
    rw [hA] at hle2 hle h0 h1 hE
    rw [hN] at hle2 h0 h1 hE
    obtain ⟨E, hEE⟩ : ∃ E, A + N = E := ⟨_, rfl⟩
    rw [hEE] at hE
    have hne1 : ((E : Int) == -1) = false := beq_eq_false_iff_ne.2 (by omega)
    have hne0 : ((E : Int) == 0) = false := beq_eq_false_iff_ne.2 (by omega)
    have hAE : (A : Int) ≤ (E : Int) := by omega
    have hEs : (E : Int) ≤ (s.size : Int) := by omega
    have hbx : bs (s.extract A E) = sg ++ (b ++ ex) := by rw [ext_bs, List.drop_take, show E - A = N by omega, h1]
    have hxs : (s.extract A E).size ≤ 1048576 := by rw [← bs_length, ext_bs, List.length_drop, List.length_take, bs_length]; omega
    have hR := Lib.hid (fun w => by
      have := l03Read_any (s.extract A E) sg b d1 d2 ex sg2 d3 w hxs hbx h2 h3 h4
      rw [hV] at this
      exact this : ∀ w : World, Calls Tryz.prog 29 #[.string (s.extract A E)] w fun e w' => e = .returned (.tuple #[.agg #[.bool n', .string u, .int .i64 y'], .int .i64 c]) ∧ Below w.heap.size w w')
    have hS := Lib.hid (fun w => l04Start_to s A w hs hA)
    clear hp hk h1 h2 h3 h4 hV hA hN hEE hbx hxs hle hle2
    go_enter Tryz.func8, Tryz.ntmps8
    go_wp2_with fail
    obtain ⟨w0, hw0, hz0, hv0, hc0, hf0⟩ := one_laid w false ⟨#[]⟩ 0
    rw [hw0]
    clear hw0
    refine (hE.out _).mono ?_
    rintro e w1 ⟨rfl, hb1⟩
    obtain ⟨hz1, hc1, hf1⟩ := one_kept hb1 hz0 hc0 hf0
    have hv1 := hv0.trans (hb1.mono hv0.size)
    clear hb1 hz0 hc0 hf0 hv0
    go_wp2_with fail
    refine (hS.out _).mono ?_
    rintro e w2 ⟨rfl, hw2⟩
    subst hw2
    go_wp2_with fail
    refine (hR.out _).mono ?_
    rintro e w3 ⟨rfl, hb3⟩
    obtain ⟨hz3, hc3, hf3⟩ := one_kept hb3 hz1 hc1 hf1
    have hv3 := hv1.trans (hb3.mono hv1.size)
    clear hb3 hz1 hc1 hf1 hv1
    go_wp2
    refine bodyPost_ret (v := .tuple #[.agg #[.bool n', .string u, .int .i64 y'], .int .i64 c]) (by simp [results, Tryz.results8, go_sem, *]) rfl ⟨rfl, ?_⟩
    exact set_three hv3 (Nat.le_refl w.heap.size) _ _ _
set_option maxRecDepth 10000 in
set_option maxHeartbeats 1000000 in
theorem implprefix_to (s : ByteArray) (n' : Bool) (u : ByteArray) (y' c : Int) (w : World) (hs : s.size ≤ 1099511627776) (hT : Tabs w) (hM : MaxCell w) (h : PreRes (bs s) n' u y' c) :
    Calls Tryz.prog 31 #[.string s] w fun e w' => e = .returned (.tuple #[.agg #[.bool n', .string u, .int .i64 y'], .int .i64 c]) ∧ Below w.heap.size w w' := by
  have hE := Lib.hid (fun w hT => implPrefixEnd_any s w hs hT)
  have HT := Lib.hid (hT.below ((Below.refl _ w).alloc (Nat.le_refl _) (Obj.cells #[.bool false, .string ⟨#[]⟩, .int .i64 0] 23)))
  rcases h with ⟨hp, rfl, rfl, rfl, rfl⟩ | ⟨hp, rfl, rfl, rfl, rfl⟩ | ⟨hk, hp, h0, sg, b, d1, d2, ex, sg2, d3, h1, h2, h3, h4, hV⟩
  · rw [hp] at hE
    go_enter Tryz.func31, Tryz.ntmps31
    go_wp2_with (go_at_call 33; refine (hE.out _ HT.out).mono ?_; rintro e w1 ⟨rfl, hb1⟩; obtain ⟨hb1c, hb1f⟩ := bcell hb1; have hb1q := hb1.size; (try simp at hb1q); have hb1q0 : w.heap.size < w1.heap.size := (by omega))
    refine bodyPost_ret (v := .tuple #[.agg #[.bool false, .string ⟨#[]⟩, .int .i64 0], .int .i64 3]) (by simp [results, Tryz.results31, go_sem, *]) rfl ⟨rfl, ?_⟩
    go_light
    (repeat (first | exact Below.refl _ _ | assumption | refine Below.drew ?_ | refine below_drewN ?_ _ | (refine Below.alloc ?_ (by first | exact Nat.le_refl _ | (simp; done) | (simp; omega) | (simp at *; omega)) _) | (refine Below.setCell ?_ (by first | exact Nat.le_refl _ | (simp; done) | (simp; omega)) _) | (refine Below.trans ?_ (Below.mono (by assumption) (by first | exact Nat.le_refl _ | (simp; done) | (simp; omega) | (simp at *; omega))))))
  · rw [hp] at hE
    go_enter Tryz.func31, Tryz.ntmps31
    go_wp2_with (go_at_call 33; refine (hE.out _ HT.out).mono ?_; rintro e w1 ⟨rfl, hb1⟩; obtain ⟨hb1c, hb1f⟩ := bcell hb1; have hb1q := hb1.size; (try simp at hb1q); have hb1q0 : w.heap.size < w1.heap.size := (by omega))
    refine bodyPost_ret (v := .tuple #[.agg #[.bool false, .string ⟨#[]⟩, .int .i64 0], .int .i64 0]) (by simp [results, Tryz.results31, go_sem, *]) rfl ⟨rfl, ?_⟩
    go_light
    (repeat (first | exact Below.refl _ _ | assumption | refine Below.drew ?_ | refine below_drewN ?_ _ | (refine Below.alloc ?_ (by first | exact Nat.le_refl _ | (simp; done) | (simp; omega) | (simp at *; omega)) _) | (refine Below.setCell ?_ (by first | exact Nat.le_refl _ | (simp; done) | (simp; omega)) _) | (refine Below.trans ?_ (Below.mono (by assumption) (by first | exact Nat.le_refl _ | (simp; done) | (simp; omega) | (simp at *; omega))))))
  · rw [hp] at hE
    have hsz := okT_size hk
    have hle2 := scanN_le ((bs s).drop (blN (bs s)))
    have hle := blN_le (bs s)
    rw [List.length_drop, bs_length] at hle2
    rw [bs_length] at hle
    obtain ⟨A, hA⟩ : ∃ A, blN (bs s) = A := ⟨_, rfl⟩
    obtain ⟨N, hN⟩ : ∃ N, scanN ((bs s).drop A) = N := ⟨_, rfl⟩
    rw [hA] at hle2 hle h0 h1 hE
    rw [hN] at hle2 h0 h1 hE
    obtain ⟨E, hEE⟩ : ∃ E, A + N = E := ⟨_, rfl⟩
    rw [hEE] at hE
    have hne1 : ¬ ((E : Int) < 0) := by omega
    have hne0 : ((E : Int) == 0) = false := beq_eq_false_iff_ne.2 (by omega)
    have hEs : (E : Int) ≤ (s.size : Int) := by omega
    have hTl := size_ofL (sg ++ (b ++ ex))
    have hTl2 := congrArg List.length h1
    rw [List.length_take] at hTl2
    obtain ⟨T, hT1⟩ : ∃ T, ofL (sg ++ (b ++ ex)) = T := ⟨_, rfl⟩
    have hTb : bs T = sg ++ (b ++ ex) := by rw [← hT1, bs_ofL]
    have hTs : T.size ≤ 1048576 := by rw [← hT1, hTl]; omega
    have hft : bs (s.extract 0 E) = (bs s).take E := bs_front s E
    have HTR := Lib.hid (show (bs (s.extract 0 E)).drop (blN (bs (s.extract 0 E))) = bs T by
      rw [hft, blN_take _ _ (by rw [hA]; omega), hA, List.drop_take, show E - A = N by omega, h1, hTb])
    have hR := Lib.hid (fun w hM => by
      have := decRead_any T sg b d1 d2 ex sg2 d3 w hM hTs hTb h2 h3 h4
      rw [hV] at this
      exact this : ∀ w : World, MaxCell w → Calls Tryz.prog 44 #[.string T] w fun e w' => e = .returned (.tuple #[.agg #[.bool n', .string u, .int .i64 y'], .int .i64 c]) ∧ Below w.heap.size w w')
    clear hp hk h1 h2 h3 h4 hV hA hN hEE hle hle2 hTl hTl2 hT1 hTb hft HT
    go_enter Tryz.func31, Tryz.ntmps31
    go_wp2_with fail
    obtain ⟨w0, hw0, hz0, hv0, hc0, hf0⟩ := one_laid w false ⟨#[]⟩ 0
    rw [hw0]
    clear hw0
    refine (hE.out _ (hT.below hv0)).mono ?_
    rintro e w1 ⟨rfl, hb1⟩
    obtain ⟨hz1, hc1, hf1⟩ := one_kept hb1 hz0 hc0 hf0
    have hv1 := hv0.trans (hb1.mono hv0.size)
    clear hb1 hz0 hc0 hf0 hv0
    go_wp2_with fail
    refine (trimBlanks_to _ T _ HTR.out).mono ?_
    rintro e w2 ⟨rfl, hb2⟩
    obtain ⟨hz2, hc2, hf2⟩ := one_kept hb2 hz1 hc1 hf1
    have hv2 := hv1.trans (hb2.mono hv1.size)
    clear hb2 hz1 hc1 hf1 hv1
    go_wp2_with fail
    refine (hR.out _ (hM.below hv2)).mono ?_
    rintro e w3 ⟨rfl, hb3⟩
    obtain ⟨hz3, hc3, hf3⟩ := one_kept hb3 hz2 hc2 hf2
    have hv3 := hv2.trans (hb3.mono hv2.size)
    clear hb3 hz2 hc2 hf2 hv2
    go_wp2
    refine bodyPost_ret (v := .tuple #[.agg #[.bool n', .string u, .int .i64 y'], .int .i64 c]) (by simp [results, Tryz.results31, go_sem, *]) rfl ⟨rfl, ?_⟩
    exact set_three hv3 (Nat.le_refl w.heap.size) _ _ _
theorem implPrefix_to (s : ByteArray) (n' : Bool) (u : ByteArray) (y' c : Int) (w : World) (hs : s.size ≤ 1099511627776) (hT : Tabs w) (hM : MaxCell w) (h : PreRes (bs s) n' u y' c) :
    Calls Tryz.prog 9 #[.string s] w fun e w' => e = .returned (.tuple #[.agg #[.bool n', .string u, .int .i64 y'], .int .i64 c]) ∧ Below w.heap.size w w' := by
  go_enter Tryz.func9, Tryz.ntmps9
  go_wp2_with fail
  obtain ⟨w0, hw0, hz0, hv0, hc0, hf0⟩ := one_laid w false ⟨#[]⟩ 0
  rw [hw0]
  clear hw0
  refine (implprefix_to s n' u y' c _ hs (hT.below hv0) (hM.below hv0) h).mono ?_
  rintro e w1 ⟨rfl, hb1⟩
  obtain ⟨hz1, hc1, hf1⟩ := one_kept hb1 hz0 hc0 hf0
  have hv1 := hv0.trans (hb1.mono hv0.size)
  clear hb1 hz0 hc0 hf0 hv0
  go_wp2
  refine bodyPost_ret (v := .tuple #[.agg #[.bool n', .string u, .int .i64 y'], .int .i64 c]) (by simp [results, Tryz.results9, go_sem, *]) rfl ⟨rfl, ?_⟩
  exact set_three hv1 (Nat.le_refl w.heap.size) _ _ _
end Go.Proofs.YtjjpdoabagnmoaaGreatDoor

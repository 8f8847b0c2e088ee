/-
  The contracts of the reference's l09End and l09Quoted, and of the program's endsRow. Conditions: bounds.
-/
import Derived.Test.YthpdmipgnoidpaaDoorCsvT
namespace Go.Proofs.YthpdmipgnoidpaaDoor
open Go.RowKit
open Go.Lib hiding intOf
set_option linter.unusedVariables false
set_option linter.unusedSimpArgs false

theorem ext_cut (s : ByteArray) (a b : Nat) : bs (s.extract a b) = ((bs s).take b).drop a := by
  show (s.extract a b).data.toList = _
  rw [Lib.extract_data]; simp [bs, List.drop_take]
theorem crlf_prefix (l : List UInt8) : Lib.hasPrefix l [13, 10] = (l.head? == some 13 && l.tail.head? == some 10) := by
  unfold Lib.hasPrefix
  rcases l with _ | ⟨a, _ | ⟨b, l⟩⟩
  · rfl
  · simp [List.isPrefixOf]
  · simp only [List.isPrefixOf, List.head?_cons, List.tail_cons, Bool.and_true]
    have e1 : (some a == some (13 : UInt8)) = (13 == a) := by rw [Bool.eq_iff_iff, beq_iff_eq, beq_iff_eq]; exact ⟨fun h => (Option.some.inj h).symm, fun h => by rw [h]⟩
    have e2 : (some b == some (10 : UInt8)) = (10 == b) := by rw [Bool.eq_iff_iff, beq_iff_eq, beq_iff_eq]; exact ⟨fun h => (Option.some.inj h).symm, fun h => by rw [h]⟩
    rw [e1, e2]
/-- a quiet call in a region behind a quiet region -/
theorem quiet_more {P : Program} {f : FuncId} {args : Array Value} {w : World} {v : Value} {a : Nat} (h : ∀ W, Calls P f args W fun e w' => e = .returned v ∧ w' = W) (b : Nat) : Calls P f args (w.drewN (a + b)) fun e w'' => e = .returned v ∧ ∃ n, w'' = w.drewN (a + n) := (h _).mono fun _ _ h => ⟨h.1, b, h.2⟩

theorem quiet_more_draws {P : Program} {f : FuncId} {args : Array Value} {w : World} {v : Value} {a b : Nat} (h : Calls P f args (w.drewN (a + b)) fun e w' => e = .returned v ∧ ∃ m, w' = (w.drewN (a + b)).drewN m) : Calls P f args (w.drewN (a + b)) fun e w'' => e = .returned v ∧ ∃ n, w'' = w.drewN (a + n) :=
  h.mono fun _ _ ⟨he, m, hm⟩ => ⟨he, b + m, by rw [hm, World.drewN_drewN, Nat.add_assoc]⟩

set_option maxRecDepth 10000 in
theorem l09End_any (s : ByteArray) (k : Nat) (hs : s.size ≤ 4000) (hk : k ≤ 8000) (w : World) :
    Calls Tryd.prog 40 #[.string s, .int .i64 (k : Int)] w fun e w' => e = .returned (.int .i64 (endB ((bs s).drop k) : Int)) ∧ w = w' := by
  by_cases h : k < s.size
  · have hI : (k : Int) < s.size := by omega
    by_cases h10 : (s[k].toNat : Int) = 10
    · rw [endB_nl h (u8_eq h10)]
      have hb : ((s[k].toNat : Int) == 10) = true := by rw [h10]; rfl
      clear h10
      go_enter Tryd.func40, Tryd.ntmps40
      go_wp2
      go_ret
      exact ⟨rfl, rfl⟩
    have hb : ((s[k].toNat : Int) == 10) = false := by rw [beq_eq_false_iff_ne]; exact h10
    have n10 : s[k] ≠ 10 := fun e => h10 (by rw [e]; rfl)
    by_cases h13 : (s[k].toNat : Int) = 13
    · have hb13 : ((s[k].toNat : Int) == 13) = true := by rw [h13]; rfl
      have c13 : s[k] = 13 := u8_eq h13
      by_cases h1 : k + 1 < s.size
      · have hI1 : (k : Int) + 1 < s.size := by omega
        by_cases hc : (s[k + 1].toNat : Int) = 10
        · rw [endB_crlf h1 c13 (u8_eq hc)]
          have hbc : ((s[k + 1].toNat : Int) == 10) = true := by rw [hc]; rfl
          clear h10 h13 hc c13 n10
          go_enter Tryd.func40, Tryd.ntmps40
          go_wp2
          go_ret
          exact ⟨rfl, rfl⟩
        · rw [endB_none h n10 (fun _ _ e => hc (by rw [e]; rfl))]
          have hbc : ((s[k + 1].toNat : Int) == 10) = false := by rw [beq_eq_false_iff_ne]; exact hc
          clear h10 h13 hc c13 n10
          go_enter Tryd.func40, Tryd.ntmps40
          go_wp2
          go_ret
          exact ⟨rfl, rfl⟩
      · have hI1 : ¬ (k : Int) + 1 < s.size := by omega
        rw [endB_none h n10 (fun _ h2 => absurd h2 h1)]
        clear h10 h13 c13 n10
        go_enter Tryd.func40, Tryd.ntmps40
        go_wp2
        go_ret
        exact ⟨rfl, rfl⟩
    · have hb13 : ((s[k].toNat : Int) == 13) = false := by rw [beq_eq_false_iff_ne]; exact h13
      rw [endB_none h n10 (fun e => absurd (by rw [e]; rfl) h13)]
      clear h10 h13 n10
      go_enter Tryd.func40, Tryd.ntmps40
      go_wp2
      go_ret
      exact ⟨rfl, rfl⟩
  · have hI : ¬ (k : Int) < s.size := by omega
    rw [endB_nine.2 (by omega)]
    go_enter Tryd.func40, Tryd.ntmps40
    go_wp2
    go_ret
    exact ⟨rfl, rfl⟩

/-- a quoted cell was read from k on -/
def QuotPost (w : World) (s : ByteArray) (k : Nat) (e : Ending) (w' : World) : Prop :=
  w = w' ∧ ((e = .returned (.tuple #[.string ⟨#[]⟩, .int .i64 (s.size : Int), .bool false]) ∧ csvQ ((bs s).drop k) k [] = none) ∨
    ∃ (k' : Nat) (c : List UInt8), e = .returned (.tuple #[.string (ofL c), .int .i64 (k' : Int), .bool true]) ∧ k ≤ k' ∧ k' ≤ s.size ∧ c.length ≤ s.size ∧ csvQ ((bs s).drop k) k [] = some (c, k', (bs s).drop k'))
set_option maxRecDepth 10000 in
set_option maxHeartbeats 1000000 in
theorem l09Quoted_any (s : ByteArray) (k : Nat) (hs : s.size ≤ 4000) (hk : k ≤ s.size) (w : World) :
    Calls Tryd.prog 39 #[.string s, .int .i64 (k : Int)] w (QuotPost w s k) := by
  go_enter Tryd.func39, Tryd.ntmps39
  go_wp2
  go_loop [1, 7] (fun av ov => ∃ (j : Nat) (out : List UInt8), k ≤ j ∧ j ≤ s.size ∧ av = .int .i64 (j : Int) ∧ ov = .string (ofL out) ∧ out.length ≤ j ∧ csvQ ((bs s).drop k) k [] = csvQ ((bs s).drop j) j out) (fun av _ => s.size - (intOf av).toNat)
  case atStart => exact ⟨k, [], Nat.le_refl _, hk, rfl, rfl, Nat.zero_le _, rfl⟩
  case round =>
    obtain ⟨j, out, hkj, hj, rfl, rfl, hol, hq⟩ := hrel
    have HQ := Lib.hid hq
    have hoz : (ofL out).size ≤ 4000 := by rw [size_ofL]; omega
    clear hq
    by_cases h : j < s.size
    · have hI : (j : Int) < s.size := by omega
      have HD := Lib.hid (bs_drop s j h)
      by_cases h34 : (s[j].toNat : Int) = 34
      · have HC : Hid (s[j] = 34) := Lib.hid (u8_eq h34)
        have hb : ((s[j].toNat : Int) == 34) = true := by rw [h34]; rfl
        clear h34
        by_cases h1 : j + 1 < s.size
        · have hI1 : (j : Int) + 1 < s.size := by omega
          have HD1 := Lib.hid (bs_drop s (j + 1) h1)
          by_cases h2 : (s[j + 1].toNat : Int) = 34
          · have HC1 : Hid (s[j + 1] = 34) := Lib.hid (u8_eq h2)
            have hb2 : ((s[j + 1].toNat : Int) != 34) = false := by simpa using h2
            have HX : Hid (ofL out ++ s.extract (j + 1) (j + 1 + 1) = ofL (out ++ [34])) := Lib.hid (by rw [chr_snoc s (j + 1) h1 out, HC1.out])
            have hxz : (s.extract (j + 1) (j + 1 + 1)).size ≤ 1 := by rw [ByteArray.size_extract]; omega
            clear h2
            go_wp2
            rw [HX.out]
            go_round
            case rel => exact ⟨j + 2, out ++ [34], by omega, by omega, by go_num, rfl, by rw [List.length_append]; simp; omega, by rw [HQ.out, HD.out, HD1.out, HC.out, HC1.out, csvQ_two]⟩
            case measure => simp [intOf]; omega
          · have hb2 : ((s[j + 1].toNat : Int) != 34) = true := by rw [bne_iff_ne]; exact h2
            have HE : Hid (csvQ ((bs s).drop k) k [] = some (out, j + 1, (bs s).drop (j + 1))) := Lib.hid (by
              rw [HQ.out, HD.out, HC.out, csvQ_end (by rw [HD1.out]; simp; exact fun e => h2 (by rw [e]; rfl))])
            clear h2
            go_wp2
            refine bodyPost_ret (v := .tuple #[.string (ofL out), .int .i64 ((j : Int) + 1), .bool true]) (by simp [results, Tryd.results39, go_sem, *]) rfl ⟨rfl, .inr ⟨j + 1, out, by go_num, by omega, by omega, by omega, HE.out⟩⟩
        · have hI1 : ¬ (j : Int) + 1 < s.size := by omega
          have HE : Hid (csvQ ((bs s).drop k) k [] = some (out, j + 1, (bs s).drop (j + 1))) := Lib.hid (by
            rw [HQ.out, HD.out, HC.out, csvQ_end (by rw [drop_end s (j + 1) (by omega)]; simp)])
          go_wp2
          refine bodyPost_ret (v := .tuple #[.string (ofL out), .int .i64 ((j : Int) + 1), .bool true]) (by simp [results, Tryd.results39, go_sem, *]) rfl ⟨rfl, .inr ⟨j + 1, out, by go_num, by omega, by omega, by omega, HE.out⟩⟩
      · have hb : ((s[j].toNat : Int) == 34) = false := by rw [beq_eq_false_iff_ne]; exact h34
        have HN : Hid (s[j] ≠ 34) := Lib.hid (fun e => h34 (by rw [e]; rfl))
        have HX := Lib.hid (chr_snoc s j h out)
        have hxz : (s.extract j (j + 1)).size ≤ 1 := by rw [ByteArray.size_extract]; omega
        clear h34
        go_wp2
        rw [HX.out]
        go_round
        case rel => exact ⟨j + 1, out ++ [s[j]], by omega, by omega, by go_num, rfl, by rw [List.length_append]; simp; omega, by rw [HQ.out, HD.out, csvQ_chr HN.out]⟩
        case measure => simp [intOf]; omega
    · obtain rfl : j = s.size := by omega
      have HE : Hid (csvQ ((bs s).drop k) k [] = none) := Lib.hid (by rw [HQ.out, drop_end s s.size (Nat.le_refl _), csvQ_nil])
      go_wp2
      refine bodyPost_ret (v := .tuple #[.string ⟨#[]⟩, .int .i64 (s.size : Int), .bool false]) (by simp [results, Tryd.results39, go_sem, *]) rfl ⟨rfl, .inl ⟨rfl, HE.out⟩⟩

set_option maxRecDepth 10000 in
theorem endsRow_any (g : Nat) (s : ByteArray) (k : Nat) (w : World) (h : Rdr w g s k) (hk : k ≤ s.size) (hs : s.size ≤ 4000) :
    Calls Tryd.prog 77 #[.pointer (some ⟨g, 0, none⟩)] w fun e w' => e = .returned (.int .i64 (eR ((bs s).drop k))) ∧ ∃ n, w' = w.drewN n := by
  have c0 := h.text
  have c1 := h.place
  obtain ⟨r, hr⟩ : ∃ r, s.extract k s.size = r := ⟨_, rfl⟩
  have hbr : bs r = (bs s).drop k := by rw [← hr, ext_cut, take_all]
  have hrs : r.size = s.size - k := by rw [← bs_length, hbr, List.length_drop, bs_length]
  have hkI : (k : Int) ≤ s.size := by omega
  rw [← hbr]
  have HPF := Lib.hid (fun W => Tryd.strings_HasPrefix r ⟨#[13, 10]⟩ W)
  clear hbr h hrs
  by_cases h0 : r.size = 0
  · have he := isEmpty_yes h0
    have hb0 : bs r = [] := bs_empty h0
    rw [hb0]
    clear hb0
    go_enter Tryd.func77, Tryd.ntmps77
    go_wp2
    go_quiet (fail)
    go_wp2
    go_ret
    exact ⟨rfl, _, rfl⟩
  · have hpos : 0 < r.size := by omega
    have he := isEmpty_no hpos
    have hposI : (0 : Int) < r.size := by omega
    have hd := bs_drop r 0 hpos
    rw [List.drop_zero] at hd
    clear h0
    by_cases h10 : (r[0].toNat : Int) = 10
    · have hb : ((r[0].toNat : Int) == 10) = true := by rw [h10]; rfl
      have e1 : endB (bs r) = 1 := by rw [hd, endB_cons, if_pos (u8_eq h10)]
      have e2 : eR (bs r) = 1 := by unfold eR; rw [e1]; rfl
      rw [e2]
      clear e1 e2 hd h10
      go_enter Tryd.func77, Tryd.ntmps77
      go_wp2
      go_quiet (fail)
      go_wp2
      go_ret
      exact ⟨rfl, _, rfl⟩
    · have hb : ((r[0].toNat : Int) == 10) = false := by rw [beq_eq_false_iff_ne]; exact h10
      have n10 : r[0] ≠ 10 := fun e => h10 (by rw [e]; rfl)
      have hpf := crlf_prefix (bs r)
      have hen : endB (bs r) = if Lib.hasPrefix (bs r) [13, 10] = true then 2 else 0 := by
        rw [hpf, hd, endB_cons, if_neg n10]
        simp
      cases hp : Lib.hasPrefix (bs r) [13, 10]
      · have e2 : eR (bs r) = -1 := by unfold eR; rw [hen, hp]; rfl
        have hp2 : Lib.hasPrefix r.data.toList [13, 10] = false := hp
        rw [hp2] at HPF
        rw [e2]
        clear e2 hen hpf hd h10 n10 hp hp2
        go_enter Tryd.func77, Tryd.ntmps77
        go_wp2
        go_quiet (fail)
        go_wp2_with (go_at_call 110; refine (HPF.out _).mono ?_; rintro e w2 ⟨rfl, hw2⟩; obtain rfl := hw2.symm)
        go_ret
        exact ⟨rfl, _, rfl⟩
      · have e2 : eR (bs r) = 2 := by unfold eR; rw [hen, hp]; rfl
        have hp2 : Lib.hasPrefix r.data.toList [13, 10] = true := hp
        rw [hp2] at HPF
        rw [e2]
        clear e2 hen hpf hd h10 n10 hp hp2
        go_enter Tryd.func77, Tryd.ntmps77
        go_wp2
        go_quiet (fail)
        go_wp2_with (go_at_call 110; refine (HPF.out _).mono ?_; rintro e w2 ⟨rfl, hw2⟩; obtain rfl := hw2.symm)
        go_ret
        exact ⟨rfl, _, rfl⟩
end Go.Proofs.YthpdmipgnoidpaaDoor

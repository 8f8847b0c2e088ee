/-
  The contract of l01Next: the reference's step (nx). Condition: the place lies in the text.
-/
import Derived.Test.YtobpecgecopdnaaDoorUtf
import Derived.Test.YtobpecgecopdnaaDoorBytes
import Derived.WalkSmall
import Derived.Lib.Agree
namespace Go.Proofs.YtobpecgecopdnaaDoor
open Go.RowKit
open Go.Lib hiding intOf
set_option linter.unusedVariables false
set_option linter.unusedSimpArgs false

theorem getD_drop (s : ByteArray) (at' j : Nat) (h : at' + j < s.size) : ((bs s).drop at').getD j 0 = s[at' + j] := by
  rw [List.getD_eq_getElem?_getD, List.getElem?_drop, List.getElem?_eq_getElem (by rw [bs_length]; exact h), Option.getD_some, bs_get s (at' + j) h]
theorem betw_yes {n lo hi : Int} (h1 : lo ≤ n) (h2 : n ≤ hi) : betw n lo hi = true := by simp [betw, h1, h2]
theorem betw_no {n lo hi : Int} (h : n < lo ∨ hi < n) : betw n lo hi = false := by simp [betw]; omega
theorem ret2_int {a b c d : Int} (h1 : a = c) (h2 : b = d) : Ending.returned (.tuple #[.int .i64 a, .int .i64 b]) = .returned (.tuple #[.int .i64 c, .int .i64 d]) := by rw [h1, h2]
theorem cont_betw (l : List UInt8) (j : Nat) : isCont l j = betw ((l.getD j 0).toNat : Int) 128 191 := by
  rw [Bool.eq_iff_iff, isCont_iff]; simp [betw]; omega

theorem l01Next_none (s : ByteArray) (at' : Nat) (h : at' < s.size) (hs : s.size ≤ 1099511627776) (w : World) (hb : (128 ≤ s[at'].toNat ∧ s[at'].toNat ≤ 191) ∨ 248 ≤ s[at'].toNat) :
    Calls Tryd.prog 43 #[.string s, .int .i64 (at' : Int)] w fun e w' => e = .returned (.tuple #[.int .i64 ((nx ((bs s).drop at')).1 : Nat), .int .i64 ((nx ((bs s).drop at')).2 : Nat)]) ∧ Below w.heap.size w w' := by
  have hnx : nx ((bs s).drop at') = (0, 0) := by
    have e : ((bs s).drop at').getD 0 0 = s[at'] := getD_drop s at' 0 h
    refine nx_short (n := 0) (c0 := 0) ?_ (.inl rfl)
    rw [e]; unfold leadL
    rw [if_neg (by omega), if_neg (by omega), if_neg (by omega), if_neg (by omega)]
  rw [hnx]
  clear hnx
  have hw : wrap64 (s[at'].toNat : Int) = (s[at'].toNat : Int) := wrap64_u8 _
  have h256 := u8_lt s[at']
  have h1 : ¬ (s[at'].toNat : Int) < 128 := by omega
  have b1 : betw (s[at'].toNat : Int) 192 223 = false := betw_no (by omega)
  have b2 : betw (s[at'].toNat : Int) 224 239 = false := betw_no (by omega)
  have b3 : betw (s[at'].toNat : Int) 240 247 = false := betw_no (by omega)
  clear hb
  go_enter Tryd.func43, Tryd.ntmps43
  go_wp2_with (go_at_call 24; refine (l01Between_any _ _ _ _).mono ?_; rintro e w1 ⟨rfl, rfl⟩)
  go_ret2
  exact ⟨rfl, Below.refl _ _⟩

set_option maxRecDepth 100000 in
set_option maxHeartbeats 1000000 in
theorem l01Next_lead1 (s : ByteArray) (at' : Nat) (h : at' < s.size) (hs : s.size ≤ 1099511627776) (w : World) (hb : s[at'].toNat ≤ 127) (hn : at' + 1 ≤ s.size) :
    Calls Tryd.prog 43 #[.string s, .int .i64 (at' : Int)] w fun e w' => e = .returned (.tuple #[.int .i64 ((nx ((bs s).drop at')).1 : Nat), .int .i64 ((nx ((bs s).drop at')).2 : Nat)]) ∧ Below w.heap.size w w' := by
  have hl : ((bs s).drop at').length = s.size - at' := by rw [List.length_drop, bs_length]
  have hlead : leadL (((bs s).drop at').getD 0 0).toNat = (1, s[at'].toNat) := by
    have e : ((bs s).drop at').getD 0 0 = s[at'] := getD_drop s at' 0 h
    rw [e]; unfold leadL
    rw [if_pos (by omega)]
  have hnx := nx_of hlead (by omega) (by omega)
  have HN := Lib.hid hnx
  have HL := Lib.hid hlead
  clear hnx hlead hl
  have hw : wrap64 (s[at'].toNat : Int) = (s[at'].toNat : Int) := wrap64_u8 _
  have h256 := u8_lt s[at']
  have h0 : (0 : Int) ≤ (s[at'].toNat : Int) := by omega
  have h1 : (s[at'].toNat : Int) < 128 := by omega
  have hn' : 1 ≤ (s.size : Int) - (at' : Int) := by omega
  obtain ⟨c0, hc0⟩ : ∃ c0 : Nat, c0 = s[at'].toNat := ⟨_, rfl⟩
  have hci : (s[at'].toNat : Int) = (c0 : Int) := by omega
  have hcb : c0 < 128 := by omega
  have HC := Lib.hid hc0
  clear hb hc0
  go_enter Tryd.func43, Tryd.ntmps43
  go_wp2_with (go_at_call 24; refine (l01Between_any _ _ _ _).mono ?_; rintro e w1 ⟨rfl, rfl⟩)
  go_loop [8, 9] (fun c k => ∃ j : Nat, 1 ≤ j ∧ j ≤ 1 ∧ k = .int .i64 j ∧ c = .int .i64 (accL c0 ((bs s).drop at') (j - 1) : Nat) ∧ contsL ((bs s).drop at') (j - 1) = true) (fun _ k => 1 - (intOf k).toNat)
  case atStart => exact ⟨1, by omega, by omega, rfl, by first | rfl | (rw [hci]; rfl), rfl⟩
  case round =>
    obtain ⟨j, hj1, hj2, rfl, rfl, hcs⟩ := hrel
    have HS := Lib.hid hcs
    clear hcs
    by_cases hlt : j < 1
    · omega
    · obtain rfl : j = 1 := by omega
      have hfin := HN.out
      rw [← HC.out, if_neg (by rw [HS.out]; simp)] at hfin
      have HF := Lib.hid hfin
      clear hfin
      obtain ⟨c, hc⟩ : ∃ c, accL c0 ((bs s).drop at') (1 - 1) = c := ⟨_, rfl⟩
      have HCC := Lib.hid hc
      cases hp : isPt (c : Int)
      · go_wp2_with fail
        refine (l01Point_any _ _).mono ?_
        rintro e w2 ⟨rfl, rfl⟩
        rw [hp]
        go_wp2
        go_ret2
        refine ⟨?_, Below.refl _ _⟩
        rw [HF.out, HCC.out, if_neg (by rw [hp]; simp)]
        rfl
      · have hlen := ptLen_cells hp
        go_wp2_with fail
        refine (l01Point_any _ _).mono ?_
        rintro e w2 ⟨rfl, rfl⟩
        rw [hp]
        clear hc
        go_wp2_with fail
        refine (l01Bytes_any _ hp _).mono ?_
        rintro e w2 ⟨rfl, rfl⟩
        rw [hlen]
        by_cases hpl : ptLen c = 1
        · have hpb : ((ptLen c : Int) != 1) = false := by rw [hpl]; rfl
          have HP := Lib.hid hpl
          clear hpl hlen
          go_wp2
          go_ret2
          refine ⟨?_, (Below.refl _ _).alloc (Nat.le_refl _) _⟩
          rw [HF.out, HCC.out, if_pos ⟨hp, HP.out⟩]
          rfl
        · have hpb : ((ptLen c : Int) != 1) = true := by rw [bne_iff_ne]; omega
          have HP := Lib.hid hpl
          clear hpl hlen
          go_wp2
          go_ret2
          refine ⟨?_, (Below.refl _ _).alloc (Nat.le_refl _) _⟩
          rw [HF.out, HCC.out, if_neg (fun h => HP.out h.2)]
          rfl

theorem l01Next_short2 (s : ByteArray) (at' : Nat) (h : at' < s.size) (hs : s.size ≤ 1099511627776) (w : World) (hb : 192 ≤ s[at'].toNat ∧ s[at'].toNat ≤ 223) (hn : s.size < at' + 2) :
    Calls Tryd.prog 43 #[.string s, .int .i64 (at' : Int)] w fun e w' => e = .returned (.tuple #[.int .i64 ((nx ((bs s).drop at')).1 : Nat), .int .i64 ((nx ((bs s).drop at')).2 : Nat)]) ∧ Below w.heap.size w w' := by
  have hl : ((bs s).drop at').length = s.size - at' := by rw [List.length_drop, bs_length]
  have hlead : leadL (((bs s).drop at').getD 0 0).toNat = (2, (s[at'].toNat - 192)) := by
    have e : ((bs s).drop at').getD 0 0 = s[at'] := getD_drop s at' 0 h
    rw [e]; unfold leadL
    rw [if_neg (by omega), if_pos (by omega)]
  have hnx : nx ((bs s).drop at') = (0, 0) := nx_short hlead (.inr (by omega))
  rw [hnx]
  clear hnx hlead hl
  have hw : wrap64 (s[at'].toNat : Int) = (s[at'].toNat : Int) := wrap64_u8 _
  have h256 := u8_lt s[at']
  have h1 : ¬ (s[at'].toNat : Int) < 128 := by omega
  have b1 : betw (s[at'].toNat : Int) 192 223 = true := betw_yes (by omega) (by omega)
  have hn' : (s.size : Int) - (at' : Int) < 2 := by omega
  clear hb
  go_enter Tryd.func43, Tryd.ntmps43
  go_wp2_with (go_at_call 24; refine (l01Between_any _ _ _ _).mono ?_; rintro e w1 ⟨rfl, rfl⟩)
  go_ret2
  exact ⟨rfl, Below.refl _ _⟩

set_option maxRecDepth 100000 in
set_option maxHeartbeats 1000000 in
theorem l01Next_lead2 (s : ByteArray) (at' : Nat) (h : at' < s.size) (hs : s.size ≤ 1099511627776) (w : World) (hb : 192 ≤ s[at'].toNat ∧ s[at'].toNat ≤ 223) (hn : at' + 2 ≤ s.size) :
    Calls Tryd.prog 43 #[.string s, .int .i64 (at' : Int)] w fun e w' => e = .returned (.tuple #[.int .i64 ((nx ((bs s).drop at')).1 : Nat), .int .i64 ((nx ((bs s).drop at')).2 : Nat)]) ∧ Below w.heap.size w w' := by
  have hl : ((bs s).drop at').length = s.size - at' := by rw [List.length_drop, bs_length]
  have hlead : leadL (((bs s).drop at').getD 0 0).toNat = (2, (s[at'].toNat - 192)) := by
    have e : ((bs s).drop at').getD 0 0 = s[at'] := getD_drop s at' 0 h
    rw [e]; unfold leadL
    rw [if_neg (by omega), if_pos (by omega)]
  have hnx := nx_of hlead (by omega) (by omega)
  have HN := Lib.hid hnx
  have HL := Lib.hid hlead
  clear hnx hlead hl
  have hw : wrap64 (s[at'].toNat : Int) = (s[at'].toNat : Int) := wrap64_u8 _
  have h256 := u8_lt s[at']
  have h0 : (0 : Int) ≤ (s[at'].toNat : Int) := by omega
  have h1 : ¬ (s[at'].toNat : Int) < 128 := by omega
  have b1 : betw (s[at'].toNat : Int) 192 223 = true := betw_yes (by omega) (by omega)
  have hn' : 2 ≤ (s.size : Int) - (at' : Int) := by omega
  obtain ⟨c0, hc0⟩ : ∃ c0 : Nat, c0 = (s[at'].toNat - 192) := ⟨_, rfl⟩
  have hci : (s[at'].toNat : Int) - 192 = (c0 : Int) := by omega
  have hcb : c0 < 32 := by omega
  have HC := Lib.hid hc0
  clear hb hc0
  go_enter Tryd.func43, Tryd.ntmps43
  go_wp2_with (go_at_call 24; refine (l01Between_any _ _ _ _).mono ?_; rintro e w1 ⟨rfl, rfl⟩)
  go_loop [8, 9] (fun c k => ∃ j : Nat, 1 ≤ j ∧ j ≤ 2 ∧ k = .int .i64 j ∧ c = .int .i64 (accL c0 ((bs s).drop at') (j - 1) : Nat) ∧ contsL ((bs s).drop at') (j - 1) = true) (fun _ k => 2 - (intOf k).toNat)
  case atStart => exact ⟨1, by omega, by omega, rfl, by first | rfl | (rw [hci]; rfl), rfl⟩
  case round =>
    obtain ⟨j, hj1, hj2, rfl, rfl, hcs⟩ := hrel
    have HS := Lib.hid hcs
    clear hcs
    by_cases hlt : j < 2
    · obtain ⟨i, rfl⟩ : ∃ i, j = i + 1 := ⟨j - 1, by omega⟩
      have hA : accL c0 ((bs s).drop at') i < 8388608 := accL_small hcb HS.out (by omega)
      have ex : ((bs s).drop at').getD (i + 1) 0 = s[at' + (i + 1)] := getD_drop s at' (i + 1) (by omega)
      have EX := Lib.hid ex
      clear ex
      have hwx : wrap64 (s[at' + (i + 1)].toNat : Int) = (s[at' + (i + 1)].toNat : Int) := wrap64_u8 _
      have hx256 := u8_lt s[at' + (i + 1)]
      have hx0 : (0 : Int) ≤ (s[at' + (i + 1)].toNat : Int) := by omega
      have ht : ((at' : Int) + ((i : Int) + 1)).toNat = at' + (i + 1) := by omega
      have hi1 : ((at' : Int) + ((i : Int) + 1)) < (s.size : Int) := by omega
      cases hbt : betw (s[at' + (i + 1)].toNat : Int) 128 191
      · go_wp2_with (go_at_call 24; refine (l01Between_any _ _ _ _).mono ?_; rintro e w1 ⟨rfl, rfl⟩)
        go_ret2
        refine ⟨?_, Below.refl _ _⟩
        rw [HN.out, if_pos (contsL_no (j := i + 1) (by omega) (by rw [cont_betw, EX.out]; exact hbt) _ (by omega))]
        rfl
      · go_wp2_with (go_at_call 24; refine (l01Between_any _ _ _ _).mono ?_; rintro e w1 ⟨rfl, rfl⟩)
        have hc : isCont ((bs s).drop at') (i + 1) = true := by rw [cont_betw, EX.out]; exact hbt
        refine ⟨⟨i + 2, by omega, by omega, by go_num, ?_, contsL_succ HS.out hc⟩, by simp [intOf]; omega⟩
        rw [isCont_iff, EX.out] at hc
        have e : accL c0 ((bs s).drop at') (i + 2 - 1) = 64 * accL c0 ((bs s).drop at') i + (s[at' + (i + 1)]).toNat - 128 := by
          rw [← EX.out]; rfl
        rw [e]
        congr 1
        show (64 * ((accL c0 ((bs s).drop at') i : Nat) : Int) + _ - 128) = _
        omega
    · obtain rfl : j = 2 := by omega
      have hfin := HN.out
      rw [← HC.out, if_neg (by rw [HS.out]; simp)] at hfin
      have HF := Lib.hid hfin
      clear hfin
      obtain ⟨c, hc⟩ : ∃ c, accL c0 ((bs s).drop at') (2 - 1) = c := ⟨_, rfl⟩
      have HCC := Lib.hid hc
      cases hp : isPt (c : Int)
      · go_wp2_with fail
        refine (l01Point_any _ _).mono ?_
        rintro e w2 ⟨rfl, rfl⟩
        rw [hp]
        go_wp2
        go_ret2
        refine ⟨?_, Below.refl _ _⟩
        rw [HF.out, HCC.out, if_neg (by rw [hp]; simp)]
        rfl
      · have hlen := ptLen_cells hp
        go_wp2_with fail
        refine (l01Point_any _ _).mono ?_
        rintro e w2 ⟨rfl, rfl⟩
        rw [hp]
        clear hc
        go_wp2_with fail
        refine (l01Bytes_any _ hp _).mono ?_
        rintro e w2 ⟨rfl, rfl⟩
        rw [hlen]
        by_cases hpl : ptLen c = 2
        · have hpb : ((ptLen c : Int) != 2) = false := by rw [hpl]; rfl
          have HP := Lib.hid hpl
          clear hpl hlen
          go_wp2
          go_ret2
          refine ⟨?_, (Below.refl _ _).alloc (Nat.le_refl _) _⟩
          rw [HF.out, HCC.out, if_pos ⟨hp, HP.out⟩]
          rfl
        · have hpb : ((ptLen c : Int) != 2) = true := by rw [bne_iff_ne]; omega
          have HP := Lib.hid hpl
          clear hpl hlen
          go_wp2
          go_ret2
          refine ⟨?_, (Below.refl _ _).alloc (Nat.le_refl _) _⟩
          rw [HF.out, HCC.out, if_neg (fun h => HP.out h.2)]
          rfl

theorem l01Next_short3 (s : ByteArray) (at' : Nat) (h : at' < s.size) (hs : s.size ≤ 1099511627776) (w : World) (hb : 224 ≤ s[at'].toNat ∧ s[at'].toNat ≤ 239) (hn : s.size < at' + 3) :
    Calls Tryd.prog 43 #[.string s, .int .i64 (at' : Int)] w fun e w' => e = .returned (.tuple #[.int .i64 ((nx ((bs s).drop at')).1 : Nat), .int .i64 ((nx ((bs s).drop at')).2 : Nat)]) ∧ Below w.heap.size w w' := by
  have hl : ((bs s).drop at').length = s.size - at' := by rw [List.length_drop, bs_length]
  have hlead : leadL (((bs s).drop at').getD 0 0).toNat = (3, (s[at'].toNat - 224)) := by
    have e : ((bs s).drop at').getD 0 0 = s[at'] := getD_drop s at' 0 h
    rw [e]; unfold leadL
    rw [if_neg (by omega), if_neg (by omega), if_pos (by omega)]
  have hnx : nx ((bs s).drop at') = (0, 0) := nx_short hlead (.inr (by omega))
  rw [hnx]
  clear hnx hlead hl
  have hw : wrap64 (s[at'].toNat : Int) = (s[at'].toNat : Int) := wrap64_u8 _
  have h256 := u8_lt s[at']
  have h1 : ¬ (s[at'].toNat : Int) < 128 := by omega
  have b1 : betw (s[at'].toNat : Int) 192 223 = false := betw_no (by omega)
  have b2 : betw (s[at'].toNat : Int) 224 239 = true := betw_yes (by omega) (by omega)
  have hn' : (s.size : Int) - (at' : Int) < 3 := by omega
  clear hb
  go_enter Tryd.func43, Tryd.ntmps43
  go_wp2_with (go_at_call 24; refine (l01Between_any _ _ _ _).mono ?_; rintro e w1 ⟨rfl, rfl⟩)
  go_ret2
  exact ⟨rfl, Below.refl _ _⟩

set_option maxRecDepth 100000 in
set_option maxHeartbeats 1000000 in
theorem l01Next_lead3 (s : ByteArray) (at' : Nat) (h : at' < s.size) (hs : s.size ≤ 1099511627776) (w : World) (hb : 224 ≤ s[at'].toNat ∧ s[at'].toNat ≤ 239) (hn : at' + 3 ≤ s.size) :
    Calls Tryd.prog 43 #[.string s, .int .i64 (at' : Int)] w fun e w' => e = .returned (.tuple #[.int .i64 ((nx ((bs s).drop at')).1 : Nat), .int .i64 ((nx ((bs s).drop at')).2 : Nat)]) ∧ Below w.heap.size w w' := by
  have hl : ((bs s).drop at').length = s.size - at' := by rw [List.length_drop, bs_length]
  have hlead : leadL (((bs s).drop at').getD 0 0).toNat = (3, (s[at'].toNat - 224)) := by
    have e : ((bs s).drop at').getD 0 0 = s[at'] := getD_drop s at' 0 h
    rw [e]; unfold leadL
    rw [if_neg (by omega), if_neg (by omega), if_pos (by omega)]
  have hnx := nx_of hlead (by omega) (by omega)
  have HN := Lib.hid hnx
  have HL := Lib.hid hlead
  clear hnx hlead hl
  have hw : wrap64 (s[at'].toNat : Int) = (s[at'].toNat : Int) := wrap64_u8 _
  have h256 := u8_lt s[at']
  have h0 : (0 : Int) ≤ (s[at'].toNat : Int) := by omega
  have h1 : ¬ (s[at'].toNat : Int) < 128 := by omega
  have b1 : betw (s[at'].toNat : Int) 192 223 = false := betw_no (by omega)
  have b2 : betw (s[at'].toNat : Int) 224 239 = true := betw_yes (by omega) (by omega)
  have hn' : 3 ≤ (s.size : Int) - (at' : Int) := by omega
  obtain ⟨c0, hc0⟩ : ∃ c0 : Nat, c0 = (s[at'].toNat - 224) := ⟨_, rfl⟩
  have hci : (s[at'].toNat : Int) - 224 = (c0 : Int) := by omega
  have hcb : c0 < 32 := by omega
  have HC := Lib.hid hc0
  clear hb hc0
  go_enter Tryd.func43, Tryd.ntmps43
  go_wp2_with (go_at_call 24; refine (l01Between_any _ _ _ _).mono ?_; rintro e w1 ⟨rfl, rfl⟩)
  go_loop [8, 9] (fun c k => ∃ j : Nat, 1 ≤ j ∧ j ≤ 3 ∧ k = .int .i64 j ∧ c = .int .i64 (accL c0 ((bs s).drop at') (j - 1) : Nat) ∧ contsL ((bs s).drop at') (j - 1) = true) (fun _ k => 3 - (intOf k).toNat)
  case atStart => exact ⟨1, by omega, by omega, rfl, by first | rfl | (rw [hci]; rfl), rfl⟩
  case round =>
    obtain ⟨j, hj1, hj2, rfl, rfl, hcs⟩ := hrel
    have HS := Lib.hid hcs
    clear hcs
    by_cases hlt : j < 3
    · obtain ⟨i, rfl⟩ : ∃ i, j = i + 1 := ⟨j - 1, by omega⟩
      have hA : accL c0 ((bs s).drop at') i < 8388608 := accL_small hcb HS.out (by omega)
      have ex : ((bs s).drop at').getD (i + 1) 0 = s[at' + (i + 1)] := getD_drop s at' (i + 1) (by omega)
      have EX := Lib.hid ex
      clear ex
      have hwx : wrap64 (s[at' + (i + 1)].toNat : Int) = (s[at' + (i + 1)].toNat : Int) := wrap64_u8 _
      have hx256 := u8_lt s[at' + (i + 1)]
      have hx0 : (0 : Int) ≤ (s[at' + (i + 1)].toNat : Int) := by omega
      have ht : ((at' : Int) + ((i : Int) + 1)).toNat = at' + (i + 1) := by omega
      have hi1 : ((at' : Int) + ((i : Int) + 1)) < (s.size : Int) := by omega
      cases hbt : betw (s[at' + (i + 1)].toNat : Int) 128 191
      · go_wp2_with (go_at_call 24; refine (l01Between_any _ _ _ _).mono ?_; rintro e w1 ⟨rfl, rfl⟩)
        go_ret2
        refine ⟨?_, Below.refl _ _⟩
        rw [HN.out, if_pos (contsL_no (j := i + 1) (by omega) (by rw [cont_betw, EX.out]; exact hbt) _ (by omega))]
        rfl
      · go_wp2_with (go_at_call 24; refine (l01Between_any _ _ _ _).mono ?_; rintro e w1 ⟨rfl, rfl⟩)
        have hc : isCont ((bs s).drop at') (i + 1) = true := by rw [cont_betw, EX.out]; exact hbt
        refine ⟨⟨i + 2, by omega, by omega, by go_num, ?_, contsL_succ HS.out hc⟩, by simp [intOf]; omega⟩
        rw [isCont_iff, EX.out] at hc
        have e : accL c0 ((bs s).drop at') (i + 2 - 1) = 64 * accL c0 ((bs s).drop at') i + (s[at' + (i + 1)]).toNat - 128 := by
          rw [← EX.out]; rfl
        rw [e]
        congr 1
        show (64 * ((accL c0 ((bs s).drop at') i : Nat) : Int) + _ - 128) = _
        omega
    · obtain rfl : j = 3 := by omega
      have hfin := HN.out
      rw [← HC.out, if_neg (by rw [HS.out]; simp)] at hfin
      have HF := Lib.hid hfin
      clear hfin
      obtain ⟨c, hc⟩ : ∃ c, accL c0 ((bs s).drop at') (3 - 1) = c := ⟨_, rfl⟩
      have HCC := Lib.hid hc
      cases hp : isPt (c : Int)
      · go_wp2_with fail
        refine (l01Point_any _ _).mono ?_
        rintro e w2 ⟨rfl, rfl⟩
        rw [hp]
        go_wp2
        go_ret2
        refine ⟨?_, Below.refl _ _⟩
        rw [HF.out, HCC.out, if_neg (by rw [hp]; simp)]
        rfl
      · have hlen := ptLen_cells hp
        go_wp2_with fail
        refine (l01Point_any _ _).mono ?_
        rintro e w2 ⟨rfl, rfl⟩
        rw [hp]
        clear hc
        go_wp2_with fail
        refine (l01Bytes_any _ hp _).mono ?_
        rintro e w2 ⟨rfl, rfl⟩
        rw [hlen]
        by_cases hpl : ptLen c = 3
        · have hpb : ((ptLen c : Int) != 3) = false := by rw [hpl]; rfl
          have HP := Lib.hid hpl
          clear hpl hlen
          go_wp2
          go_ret2
          refine ⟨?_, (Below.refl _ _).alloc (Nat.le_refl _) _⟩
          rw [HF.out, HCC.out, if_pos ⟨hp, HP.out⟩]
          rfl
        · have hpb : ((ptLen c : Int) != 3) = true := by rw [bne_iff_ne]; omega
          have HP := Lib.hid hpl
          clear hpl hlen
          go_wp2
          go_ret2
          refine ⟨?_, (Below.refl _ _).alloc (Nat.le_refl _) _⟩
          rw [HF.out, HCC.out, if_neg (fun h => HP.out h.2)]
          rfl

theorem l01Next_short4 (s : ByteArray) (at' : Nat) (h : at' < s.size) (hs : s.size ≤ 1099511627776) (w : World) (hb : 240 ≤ s[at'].toNat ∧ s[at'].toNat ≤ 247) (hn : s.size < at' + 4) :
    Calls Tryd.prog 43 #[.string s, .int .i64 (at' : Int)] w fun e w' => e = .returned (.tuple #[.int .i64 ((nx ((bs s).drop at')).1 : Nat), .int .i64 ((nx ((bs s).drop at')).2 : Nat)]) ∧ Below w.heap.size w w' := by
  have hl : ((bs s).drop at').length = s.size - at' := by rw [List.length_drop, bs_length]
  have hlead : leadL (((bs s).drop at').getD 0 0).toNat = (4, (s[at'].toNat - 240)) := by
    have e : ((bs s).drop at').getD 0 0 = s[at'] := getD_drop s at' 0 h
    rw [e]; unfold leadL
    rw [if_neg (by omega), if_neg (by omega), if_neg (by omega), if_pos (by omega)]
  have hnx : nx ((bs s).drop at') = (0, 0) := nx_short hlead (.inr (by omega))
  rw [hnx]
  clear hnx hlead hl
  have hw : wrap64 (s[at'].toNat : Int) = (s[at'].toNat : Int) := wrap64_u8 _
  have h256 := u8_lt s[at']
  have h1 : ¬ (s[at'].toNat : Int) < 128 := by omega
  have b1 : betw (s[at'].toNat : Int) 192 223 = false := betw_no (by omega)
  have b2 : betw (s[at'].toNat : Int) 224 239 = false := betw_no (by omega)
  have b3 : betw (s[at'].toNat : Int) 240 247 = true := betw_yes (by omega) (by omega)
  have hn' : (s.size : Int) - (at' : Int) < 4 := by omega
  clear hb
  go_enter Tryd.func43, Tryd.ntmps43
  go_wp2_with (go_at_call 24; refine (l01Between_any _ _ _ _).mono ?_; rintro e w1 ⟨rfl, rfl⟩)
  go_ret2
  exact ⟨rfl, Below.refl _ _⟩

set_option maxRecDepth 100000 in
set_option maxHeartbeats 1000000 in
theorem l01Next_lead4 (s : ByteArray) (at' : Nat) (h : at' < s.size) (hs : s.size ≤ 1099511627776) (w : World) (hb : 240 ≤ s[at'].toNat ∧ s[at'].toNat ≤ 247) (hn : at' + 4 ≤ s.size) :
    Calls Tryd.prog 43 #[.string s, .int .i64 (at' : Int)] w fun e w' => e = .returned (.tuple #[.int .i64 ((nx ((bs s).drop at')).1 : Nat), .int .i64 ((nx ((bs s).drop at')).2 : Nat)]) ∧ Below w.heap.size w w' := by
  have hl : ((bs s).drop at').length = s.size - at' := by rw [List.length_drop, bs_length]
  have hlead : leadL (((bs s).drop at').getD 0 0).toNat = (4, (s[at'].toNat - 240)) := by
    have e : ((bs s).drop at').getD 0 0 = s[at'] := getD_drop s at' 0 h
    rw [e]; unfold leadL
    rw [if_neg (by omega), if_neg (by omega), if_neg (by omega), if_pos (by omega)]
  have hnx := nx_of hlead (by omega) (by omega)
  have HN := Lib.hid hnx
  have HL := Lib.hid hlead
  clear hnx hlead hl
  have hw : wrap64 (s[at'].toNat : Int) = (s[at'].toNat : Int) := wrap64_u8 _
  have h256 := u8_lt s[at']
  have h0 : (0 : Int) ≤ (s[at'].toNat : Int) := by omega
  have h1 : ¬ (s[at'].toNat : Int) < 128 := by omega
  have b1 : betw (s[at'].toNat : Int) 192 223 = false := betw_no (by omega)
  have b2 : betw (s[at'].toNat : Int) 224 239 = false := betw_no (by omega)
  have b3 : betw (s[at'].toNat : Int) 240 247 = true := betw_yes (by omega) (by omega)
  have hn' : 4 ≤ (s.size : Int) - (at' : Int) := by omega
  obtain ⟨c0, hc0⟩ : ∃ c0 : Nat, c0 = (s[at'].toNat - 240) := ⟨_, rfl⟩
  have hci : (s[at'].toNat : Int) - 240 = (c0 : Int) := by omega
  have hcb : c0 < 32 := by omega
  have HC := Lib.hid hc0
  clear hb hc0
  go_enter Tryd.func43, Tryd.ntmps43
  go_wp2_with (go_at_call 24; refine (l01Between_any _ _ _ _).mono ?_; rintro e w1 ⟨rfl, rfl⟩)
  go_loop [8, 9] (fun c k => ∃ j : Nat, 1 ≤ j ∧ j ≤ 4 ∧ k = .int .i64 j ∧ c = .int .i64 (accL c0 ((bs s).drop at') (j - 1) : Nat) ∧ contsL ((bs s).drop at') (j - 1) = true) (fun _ k => 4 - (intOf k).toNat)
  case atStart => exact ⟨1, by omega, by omega, rfl, by first | rfl | (rw [hci]; rfl), rfl⟩
  case round =>
    obtain ⟨j, hj1, hj2, rfl, rfl, hcs⟩ := hrel
    have HS := Lib.hid hcs
    clear hcs
    by_cases hlt : j < 4
    · obtain ⟨i, rfl⟩ : ∃ i, j = i + 1 := ⟨j - 1, by omega⟩
      have hA : accL c0 ((bs s).drop at') i < 8388608 := accL_small hcb HS.out (by omega)
      have ex : ((bs s).drop at').getD (i + 1) 0 = s[at' + (i + 1)] := getD_drop s at' (i + 1) (by omega)
      have EX := Lib.hid ex
      clear ex
      have hwx : wrap64 (s[at' + (i + 1)].toNat : Int) = (s[at' + (i + 1)].toNat : Int) := wrap64_u8 _
      have hx256 := u8_lt s[at' + (i + 1)]
      have hx0 : (0 : Int) ≤ (s[at' + (i + 1)].toNat : Int) := by omega
      have ht : ((at' : Int) + ((i : Int) + 1)).toNat = at' + (i + 1) := by omega
      have hi1 : ((at' : Int) + ((i : Int) + 1)) < (s.size : Int) := by omega
      cases hbt : betw (s[at' + (i + 1)].toNat : Int) 128 191
      · go_wp2_with (go_at_call 24; refine (l01Between_any _ _ _ _).mono ?_; rintro e w1 ⟨rfl, rfl⟩)
        go_ret2
        refine ⟨?_, Below.refl _ _⟩
        rw [HN.out, if_pos (contsL_no (j := i + 1) (by omega) (by rw [cont_betw, EX.out]; exact hbt) _ (by omega))]
        rfl
      · go_wp2_with (go_at_call 24; refine (l01Between_any _ _ _ _).mono ?_; rintro e w1 ⟨rfl, rfl⟩)
        have hc : isCont ((bs s).drop at') (i + 1) = true := by rw [cont_betw, EX.out]; exact hbt
        refine ⟨⟨i + 2, by omega, by omega, by go_num, ?_, contsL_succ HS.out hc⟩, by simp [intOf]; omega⟩
        rw [isCont_iff, EX.out] at hc
        have e : accL c0 ((bs s).drop at') (i + 2 - 1) = 64 * accL c0 ((bs s).drop at') i + (s[at' + (i + 1)]).toNat - 128 := by
          rw [← EX.out]; rfl
        rw [e]
        congr 1
        show (64 * ((accL c0 ((bs s).drop at') i : Nat) : Int) + _ - 128) = _
        omega
    · obtain rfl : j = 4 := by omega
      have hfin := HN.out
      rw [← HC.out, if_neg (by rw [HS.out]; simp)] at hfin
      have HF := Lib.hid hfin
      clear hfin
      obtain ⟨c, hc⟩ : ∃ c, accL c0 ((bs s).drop at') (4 - 1) = c := ⟨_, rfl⟩
      have HCC := Lib.hid hc
      cases hp : isPt (c : Int)
      · go_wp2_with fail
        refine (l01Point_any _ _).mono ?_
        rintro e w2 ⟨rfl, rfl⟩
        rw [hp]
        go_wp2
        go_ret2
        refine ⟨?_, Below.refl _ _⟩
        rw [HF.out, HCC.out, if_neg (by rw [hp]; simp)]
        rfl
      · have hlen := ptLen_cells hp
        go_wp2_with fail
        refine (l01Point_any _ _).mono ?_
        rintro e w2 ⟨rfl, rfl⟩
        rw [hp]
        clear hc
        go_wp2_with fail
        refine (l01Bytes_any _ hp _).mono ?_
        rintro e w2 ⟨rfl, rfl⟩
        rw [hlen]
        by_cases hpl : ptLen c = 4
        · have hpb : ((ptLen c : Int) != 4) = false := by rw [hpl]; rfl
          have HP := Lib.hid hpl
          clear hpl hlen
          go_wp2
          go_ret2
          refine ⟨?_, (Below.refl _ _).alloc (Nat.le_refl _) _⟩
          rw [HF.out, HCC.out, if_pos ⟨hp, HP.out⟩]
          rfl
        · have hpb : ((ptLen c : Int) != 4) = true := by rw [bne_iff_ne]; omega
          have HP := Lib.hid hpl
          clear hpl hlen
          go_wp2
          go_ret2
          refine ⟨?_, (Below.refl _ _).alloc (Nat.le_refl _) _⟩
          rw [HF.out, HCC.out, if_neg (fun h => HP.out h.2)]
          rfl

theorem l01Next_any (s : ByteArray) (at' : Nat) (h : at' < s.size) (hs : s.size ≤ 1099511627776) (w : World) :
    Calls Tryd.prog 43 #[.string s, .int .i64 (at' : Int)] w fun e w' => e = .returned (.tuple #[.int .i64 ((nx ((bs s).drop at')).1 : Nat), .int .i64 ((nx ((bs s).drop at')).2 : Nat)]) ∧ Below w.heap.size w w' := by
  by_cases h1 : s[at'].toNat ≤ 127
  · exact l01Next_lead1 s at' h hs w h1 (by omega)
  by_cases h2 : 192 ≤ s[at'].toNat ∧ s[at'].toNat ≤ 223
  · by_cases hn : at' + 2 ≤ s.size
    · exact l01Next_lead2 s at' h hs w h2 hn
    · exact l01Next_short2 s at' h hs w h2 (by omega)
  by_cases h3 : 224 ≤ s[at'].toNat ∧ s[at'].toNat ≤ 239
  · by_cases hn : at' + 3 ≤ s.size
    · exact l01Next_lead3 s at' h hs w h3 hn
    · exact l01Next_short3 s at' h hs w h3 (by omega)
  by_cases h4 : 240 ≤ s[at'].toNat ∧ s[at'].toNat ≤ 247
  · by_cases hn : at' + 4 ≤ s.size
    · exact l01Next_lead4 s at' h hs w h4 hn
    · exact l01Next_short4 s at' h hs w h4 (by omega)
  · exact l01Next_none s at' h hs w (by omega)

end Go.Proofs.YtobpecgecopdnaaDoor

/-
  The contracts of the laws' helpers markText, markStringS and heldStringS on a row of strings that a call owns. Condition: bounds.
-/
import Derived.Test.YthpdmipgnoidpaaDoorStrs
import Derived.Test.YthpdmipgnoidpaaDoorOwns
import Derived.Test.YthpdmipgnoidpaaDoorFill
import Derived.Laws.OwnMore
import Derived.Deep.RegionHeld3
namespace Go.Proofs.YthpdmipgnoidpaaDoor
open Go.RowKit
set_option linter.unusedVariables false
set_option linter.unusedSimpArgs false

/-- the laws' mark number k -/
def mkT (k : Nat) : ByteArray := ofL (109 :: dec k)
def DigAt (k0 k : Nat) (o : List UInt8) : Prop := (k = 0 ∧ o = dec k0) ∨ (0 < k ∧ dec k ++ o = dec k0)
theorem digAt_start {k : Nat} (h : 0 < k) : DigAt k k [] := .inr ⟨h, by simp⟩
theorem digAt_step {k0 k d q : Nat} {o : List UInt8} (h : DigAt k0 k o) (hk : 0 < k) (hd : k % 10 = d) (hq : k / 10 = q) : DigAt k0 q (UInt8.ofNat (48 + d) :: o) := by
  rcases h with ⟨h0, _⟩ | ⟨_, h⟩
  · omega
  · by_cases hs : k < 10
    · left
      rw [dec_small hs] at h
      have : d = k := by omega
      subst this
      exact ⟨by omega, by simpa using h⟩
    · right
      rw [dec_big hs, hd, hq] at h
      exact ⟨by omega, by simpa using h⟩
theorem digAt_len {k0 k : Nat} {o : List UInt8} (h : DigAt k0 k o) : o.length ≤ (dec k0).length := by
  rcases h with ⟨_, rfl⟩ | ⟨_, h⟩
  · exact Nat.le_refl _
  · rw [← h, List.length_append]; omega

set_option maxRecDepth 100000 in
set_option maxHeartbeats 1000000 in
theorem markText_any (k0 : Nat) (h1 : 1 ≤ k0) (h2 : k0 ≤ 1099511627776) (w : World) :
    Calls Tryd.prog 75 #[.int .i64 (k0 : Int)] w fun e w' => e = .returned (.string (mkT k0)) ∧ Below w.heap.size w w' := by
  have hlen := dec_len_le 13 k0 (by omega) (by omega)
  have hk00 : ¬ k0 = 0 := by omega
  go_enter Tryd.func75, Tryd.ntmps75
  go_wp2
  go_loopw [0, 3] (fun kv ov wr => ∃ (k : Nat) (o : ByteArray), k ≤ k0 ∧ kv = .int .i64 (k : Int) ∧ ov = .string o ∧ DigAt k0 k (bs o) ∧ Below w.heap.size w wr) (fun kv _ _ => (intOf kv).toNat)
  case atStart => exact ⟨k0, .empty, Nat.le_refl _, rfl, rfl, digAt_start (by omega), Below.refl _ _⟩
  case round =>
    obtain ⟨k, o, hk, rfl, rfl, hdig, hb⟩ := hrel
    have HB := Lib.hid hb
    have HD := Lib.hid hdig
    have hol := digAt_len hdig
    rw [bs_length] at hol
    have hszw := hb.size
    clear hb hdig
    by_cases hpos : 0 < k
    · obtain ⟨d, hd⟩ : ∃ d, k % 10 = d := ⟨_, rfl⟩
      obtain ⟨q, hq⟩ : ∃ q, k / 10 = q := ⟨_, rfl⟩
      have hd10 : d < 10 := by omega
      have hstep := digAt_step HD.out hpos hd hq
      have HST := Lib.hid hstep
      have hq1 : q < k := by omega
      have hw2 : Int.tmod (k : Int) 10 = (d : Int) := by rw [Int.tmod_eq_emod_of_nonneg (by omega)]; omega
      have hw3 : Int.tdiv (k : Int) 10 = (q : Int) := by rw [Int.tdiv_eq_ediv_of_nonneg (by omega)]; omega
      have hposI : (0 : Int) < (k : Int) := by omega
      obtain ⟨c, hcd⟩ : ∃ c, UInt8.ofNat (48 + d) = c := ⟨_, rfl⟩
      have hcn : (c.toNat : Int) = 48 + (d : Int) := by rw [← hcd, ofNat_dig hd10]; omega
      rw [hcd] at HST
      have hconv : (convert 62 9 (.slice (some ⟨wr.heap.size, 0, none⟩) 1 1)).run Tryd.prog (wr.alloc (.cells #[.int .u8 (48 + (d : Int))] 5)) = .ok (.string (ofL [c])) (wr.alloc (.cells #[.int .u8 (48 + (d : Int))] 5)) := by
        refine textOfRow _ _ 1 1 [c] rfl (fun t ht => ?_)
        obtain rfl : t = 0 := by simpa using ht
        rw [List.getElem_cons_zero, hcn]
        simp
      have hso : (ofL [c]).size = 1 := rfl
      clear hd hq hcd hcn hstep
      go_wp2
      refine ⟨⟨q, ofL [c] ++ o, by omega, rfl, rfl, ?_, HB.out.alloc hszw _⟩, by simp [intOf]; omega⟩
      have e : bs (ofL [c] ++ o) = c :: bs o := by simp [bs, ofL]
      rw [e]
      exact HST.out
    · obtain rfl : k = 0 := by omega
      have ho : bs o = dec k0 := by
        rcases HD.out with ⟨_, h⟩ | ⟨h, _⟩
        · exact h
        · omega
      have he : (ByteArray.mk #[109]) ++ o = mkT k0 := bs_inj (by
        unfold mkT
        rw [bs_ofL, ← ho]
        simp [bs])
      have HE := Lib.hid he
      clear ho he
      go_wp2
      go_ret
      rw [← HE.out]
      exact ⟨rfl, HB.out⟩

/-- n strings that count from k on -/
def markSL (n : Nat) (k : Nat) : List Value := (List.range n).map (fun i => .string (mkT (k + i)))
theorem markSL_length (n k : Nat) : (markSL n k).length = n := by simp [markSL]
theorem markSL_get {n k i : Nat} (h : i < n) : (markSL n k)[i]? = some (.string (mkT (k + i))) := by simp [markSL, h]

set_option maxHeartbeats 1000000 in
theorem markStringS_any (B : Nat) (a : Option Addr) (cap n k : Nat) (xs : List Value) (w : World) (h : w.ownsRow B 9 1 (.slice a n cap) n xs) (hB : B ≤ w.heap.size) (hn : n ≤ 549755813888) (hk1 : 1 ≤ k) (hk : k ≤ 549755813888) :
    Calls Tryd.prog 37 #[.slice a n cap, .int .i64 (k : Int)] w fun e w' => e = .returned (.int .i64 ((k + n : Nat) : Int)) ∧ w'.ownsRow B 9 1 (.slice a n cap) n (markSL n k) ∧ Below B w w' := by
  have HO := Lib.hid h
  clear h
  go_enter Tryd.func37, Tryd.ntmps37
  go_wp2
  go_loopw [1, 5] (fun kk i wr => ∃ (j : Nat) (ys : List Value), j ≤ n ∧ kk = .int .i64 ((k + j : Nat) : Int) ∧ i = .int .i64 (j : Int) ∧ wr.ownsRow B 9 1 (.slice a n cap) n ys ∧ Below B w wr ∧ ys.take j = (markSL n k).take j) (fun _ i _ => n - (intOf i).toNat)
  case atStart => exact ⟨0, xs, Nat.zero_le _, by simp, rfl, HO.out, Below.refl _ _, by simp⟩
  case round =>
    obtain ⟨j, ys, hj, rfl, rfl, hown, hb, ht⟩ := hrel
    have HOW := Lib.hid hown
    have HB := Lib.hid hb
    have HT := Lib.hid ht
    clear hown hb ht
    by_cases hlt : j < n
    · go_wp2_with fail
      refine (markText_any (k + j) (by omega) (by omega) _).mono ?_
      rintro e w2 ⟨rfl, hb2⟩
      have HOW2 := Lib.hid (ownsRow_below HOW.out hb2)
      have HB2 := Lib.hid (HB.out.trans (hb2.mono (Nat.le_trans hB HB.out.size)))
      clear hb2
      obtain ⟨g, cap', hv, hg, hg2⟩ := ownsRow_some HOW2.out (by omega)
      simp only [Value.slice.injEq, true_and] at hv
      obtain ⟨rfl, rfl⟩ := hv
      have hc := HOW2.out.cellAt j (by omega)
      have hf := HOW2.out.frozenAt j
      have hyl : ys.length = n := by simpa using HOW2.out.1
      rw [List.getElem?_eq_getElem (by omega)] at hc
      go_wp2
      go_light
      refine ⟨⟨j + 1, ys.set j (.string (mkT (k + j))), by omega, by go_num, by go_num, (HOW2.out.stored j _).1, HB2.out.setCell hg _, ?_⟩, by simp [intOf]; omega⟩
      rw [List.take_add_one, List.take_add_one, List.take_set_of_le (Nat.le_refl _), HT.out, markSL_get hlt, List.getElem?_set_self (by omega)]
    · obtain rfl : j = n := by omega
      go_wp2
      go_ret
      have hyl : ys.length = j := by simpa using HOW.out.1
      have e : ys = markSL j k := by
        have := HT.out
        rwa [List.take_of_length_le (by omega), List.take_of_length_le (by rw [markSL_length]; exact Nat.le_refl _)] at this
      exact ⟨rfl, e ▸ HOW.out, HB.out⟩

set_option maxHeartbeats 1000000 in
theorem heldStringS_any (B : Nat) (a : Option Addr) (cap n k : Nat) (w : World) (h : w.ownsRow B 9 1 (.slice a n cap) n (markSL n k)) (hn : n ≤ 549755813888) (hk1 : 1 ≤ k) (hk : k ≤ 549755813888) :
    Calls Tryd.prog 38 #[.slice a n cap, .int .i64 (k : Int)] w fun e w' => e = .returned (.int .i64 ((k + n : Nat) : Int)) ∧ Below w.heap.size w w' := by
  have HO := Lib.hid h
  clear h
  go_enter Tryd.func38, Tryd.ntmps38
  go_wp2
  go_loopw [1, 5] (fun kk i wr => ∃ (j : Nat), j ≤ n ∧ kk = .int .i64 ((k + j : Nat) : Int) ∧ i = .int .i64 (j : Int) ∧ Below w.heap.size w wr) (fun _ i _ => n - (intOf i).toNat)
  case atStart => exact ⟨0, Nat.zero_le _, by simp, rfl, Below.refl _ _⟩
  case round =>
    obtain ⟨j, hj, rfl, rfl, hb⟩ := hrel
    by_cases hlt : j < n
    · have HOW := Lib.hid (ownsRow_below HO.out hb)
      obtain ⟨g, cap', hv, hg, hg2⟩ := ownsRow_some HO.out (by omega)
      simp only [Value.slice.injEq, true_and] at hv
      obtain ⟨rfl, rfl⟩ := hv
      have hc := HOW.out.cellAt j (by omega)
      rw [markSL_get hlt] at hc
      have HM := Lib.hid (fun w => markText_any (k + j) (by omega) (by omega) w)
      obtain ⟨x, hx⟩ : ∃ x, mkT (k + j) = x := ⟨_, rfl⟩
      rw [hx] at hc HM
      clear hx HOW
      go_wp2
      go_region_held3 (fun w' => w'.cell? ⟨g, j, none⟩ = some (.string x)) (first | assumption | go_keep)
        (first
          | (go_at_call 75; refine (HM.out _).mono ?_; rintro e w5 ⟨rfl, hb5⟩; have hB5 := Below.trans (by first | assumption | exact Below.drew (by assumption)) (Below.mono hb5 (Below.size (by first | assumption | exact Below.drew (by assumption)))); have hc5 : w5.cell? ⟨g, j, none⟩ = some (.string x) := (by have := hb5.cell (p := ⟨g, j, none⟩) (by first | assumption | exact Lib.lt_of_cell (by assumption) | exact cell_lt (by assumption)); rw [this]; assumption); clear hb5))
      all_goals go_wp2
      all_goals exact ⟨⟨j + 1, by omega, by go_num, by go_num, by assumption⟩, by simp [intOf]; omega⟩
    · obtain rfl : j = n := by omega
      go_wp2
      go_ret
      exact ⟨rfl, hb⟩
theorem markStringS_one (B : Nat) (a : Option Addr) (cap n : Nat) (xs : List Value) (w : World) (h : w.ownsRow B 9 1 (.slice a n cap) n xs) (hB : B ≤ w.heap.size) (hn : n ≤ 549755813888) :
    Calls Tryd.prog 37 #[.slice a n cap, .int .i64 1] w fun e w' => e = .returned (.int .i64 ((n + 1 : Nat) : Int)) ∧ w'.ownsRow B 9 1 (.slice a n cap) n (markSL n 1) ∧ Below B w w' := by
  have h1 := markStringS_any B a cap n 1 xs w h hB hn (by omega) (by omega)
  rw [Nat.add_comm 1 n] at h1
  exact h1
theorem heldStringS_one (B : Nat) (a : Option Addr) (cap n : Nat) (w : World) (h : w.ownsRow B 9 1 (.slice a n cap) n (markSL n 1)) (hn : n ≤ 549755813888) :
    Calls Tryd.prog 38 #[.slice a n cap, .int .i64 1] w fun e w' => e = .returned (.int .i64 ((n + 1 : Nat) : Int)) ∧ Below w.heap.size w w' := by
  have h1 := heldStringS_any B a cap n 1 w h hn (by omega) (by omega)
  rw [Nat.add_comm 1 n] at h1
  exact h1
theorem rowS_owns {w : World} {b : Nat} {a : Option Addr} {cap n : Nat} {L : List ByteArray} (h : w.ownsRow b 9 1 (.slice a n cap) n (L.map Value.string)) : RowS w a L := by
  have hl : L.length = n := by simpa using h.1
  rcases h.2 with ⟨h1, rfl⟩ | ⟨g, cap', cur, h1, hg, hh, _⟩
  · left; exact List.eq_nil_of_length_eq_zero hl
  · right
    simp only [Value.slice.injEq, true_and] at h1
    obtain ⟨rfl, rfl⟩ := h1
    refine ⟨g, 0, rfl, (Array.getElem?_eq_some_iff.1 hh).1, fun i hi => ?_⟩
    rw [Nat.zero_add, h.cellAt i (by omega), List.getElem?_map, List.getElem?_eq_getElem hi, getD_getS L i hi]
    rfl
/-- two owned rows of the same strings -/
theorem eqStringS_owned {B B' : Nat} {a a' : Option Addr} {cap cap' n : Nat} (L : List ByteArray) (w : World) (h : w.ownsRow B 9 1 (.slice a n cap) n (L.map Value.string)) (h' : w.ownsRow B' 9 1 (.slice a' n cap') n (L.map Value.string)) (hl : n ≤ 1099511627776) :
    Calls Tryd.prog 74 #[.slice a n cap, .slice a' n cap'] w fun e w' => e = .returned (.bool true) ∧ Below w.heap.size w w' := by
  have hn : L.length = n := by have := h.1; simpa using this
  have e := eqStringS_same a a' cap cap' L w (rowS_owns h) (rowS_owns h') (by omega)
  rw [hn] at e
  exact e
end Go.Proofs.YthpdmipgnoidpaaDoor

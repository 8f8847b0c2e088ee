/-
  Texts of this claim in one file, in build order: DecReadWalk, ScanT, TextRead, Utf, Bytes. Each says ahead what it proves and under which conditions.
-/
import Derived.Test.YtjjpdoabagnmoaaGreatDoorQ12
import Derived.Test.YtjjpdoabagnmoaaGreatDoorQ13
import Derived.Test.YtjjpdoabagnmoaaGreatDoorQ14
import Derived.Test.YtjjpdoabagnmoaaGreatDoorQ02
import Derived.Test.YtjjpdoabagnmoaaGreatDoorQ09
import Derived.Test.YtjjpdoabagnmoaaGreatDoorQ01
import Derived.Lib.ValidLaws
import Derived.Lib.RuneBytes
import Derived.Test.YtjjpdoabagnmoaaGreatDoorQ08
/-
  The walk of FnExactDecRead, out of the contracts. Condition: the library's variable MaxLen holds an int.
-/
namespace Go.Proofs.YtjjpdoabagnmoaaGreatDoor
open Go.RowKit
set_option linter.unusedVariables false
set_option linter.unusedSimpArgs false

theorem l03Scan_zero (s : ByteArray) (x : Int) (K : Nat) (w : World) (hx : x = 0) (hs : s.size ≤ 1099511627776) (h0 : 0 < s.size) (hK : scanN (bs s) = K) :
    Calls Tryz.prog 57 #[.string s, .int .i64 x] w fun e w' => e = .returned (.int .i64 (K : Int)) ∧ w' = w := by
  subst hx hK
  have h := l03Scan_any s 0 w hs h0
  rw [Nat.zero_add] at h
  exact h
theorem decEnd_to (s : ByteArray) (K : Nat) (w : World) (hs : s.size ≤ 1099511627776) (hK : scanN (bs s) = K) :
    Calls Tryz.prog 43 #[.string s] w fun e w' => e = .returned (.int .i64 (K : Int)) ∧ w' = w := by
  subst hK; exact decEnd_any s w hs
/-- a text that no number's text is -/
def NoRead (s : ByteArray) : Prop := s.size = 0 ∨ 1000 < s.size ∨ (0 < s.size ∧ s.size ≤ 1000 ∧ scanN (bs s) ≠ s.size)
theorem implDecRead_no (s : ByteArray) (w : World) (hs : s.size ≤ maxLen) (h : NoRead s) :
    Calls Tryz.prog 20 #[.string s] w fun e w' => e = .returned (.tuple #[.agg #[.bool false, .string ⟨#[]⟩, .int .i64 0], .int .i64 3]) ∧ Below w.heap.size w w' := by
  unfold maxLen at hs
  rcases h with h0 | h | ⟨h0, h1, h2⟩
  · have hemp := isEmpty_yes h0
    have hgt : ¬ 1000 < (s.size : Int) := by omega
    have hK : scanN (bs s) = 0 := by rw [bs_empty h0]; rfl
    have hne : (((0 : Nat) : Int) != (s.size : Int)) = false := by rw [h0]; rfl
    have hne2 : ((0 : Int) != (s.size : Int)) = false := by rw [h0]; rfl
    go_enter Tryz.func20, Tryz.ntmps20
    go_wp2_with (go_at_call 43; refine (decEnd_to _ 0 _ (by omega) hK).mono ?_; rintro e w1 ⟨rfl, rfl⟩)
    refine bodyPost_ret (v := .tuple #[.agg #[.bool false, .string ⟨#[]⟩, .int .i64 0], .int .i64 3]) (by simp [results, Tryz.results20, go_sem, *]) rfl ⟨rfl, ?_⟩
    go_light
    (repeat (first | exact Below.refl _ _ | assumption | refine Below.drew ?_ | refine Go.below_drewN ?_ _ | (refine Below.alloc ?_ (by first | exact Nat.le_refl _ | (simp; done) | (simp; omega) | (simp at *; omega)) _) | (refine Below.setCell ?_ (by first | exact Nat.le_refl _ | (simp; done) | (simp; omega)) _) | (refine Below.trans ?_ (Below.mono (by assumption) (by first | exact Nat.le_refl _ | (simp; done) | (simp; omega) | (simp at *; omega))))))
  · have hgt : 1000 < (s.size : Int) := by omega
    go_enter Tryz.func20, Tryz.ntmps20
    go_wp2
    refine bodyPost_ret (v := .tuple #[.agg #[.bool false, .string ⟨#[]⟩, .int .i64 0], .int .i64 3]) (by simp [results, Tryz.results20, go_sem, *]) rfl ⟨rfl, ?_⟩
    go_light
    (repeat (first | exact Below.refl _ _ | assumption | refine Below.drew ?_ | refine Go.below_drewN ?_ _ | (refine Below.alloc ?_ (by first | exact Nat.le_refl _ | (simp; done) | (simp; omega) | (simp at *; omega)) _) | (refine Below.setCell ?_ (by first | exact Nat.le_refl _ | (simp; done) | (simp; omega)) _) | (refine Below.trans ?_ (Below.mono (by assumption) (by first | exact Nat.le_refl _ | (simp; done) | (simp; omega) | (simp at *; omega))))))
  · have hgt : ¬ 1000 < (s.size : Int) := by omega
    obtain ⟨K, hK⟩ : ∃ K, scanN (bs s) = K := ⟨_, rfl⟩
    rw [hK] at h2
    have hne : ((K : Int) != (s.size : Int)) = true := by rw [bne_iff_ne]; omega
    go_enter Tryz.func20, Tryz.ntmps20
    go_wp2_with (go_at_call 43; refine (decEnd_to _ K _ (by omega) hK).mono ?_; rintro e w1 ⟨rfl, rfl⟩)
    refine bodyPost_ret (v := .tuple #[.agg #[.bool false, .string ⟨#[]⟩, .int .i64 0], .int .i64 3]) (by simp [results, Tryz.results20, go_sem, *]) rfl ⟨rfl, ?_⟩
    go_light
    (repeat (first | exact Below.refl _ _ | assumption | refine Below.drew ?_ | refine Go.below_drewN ?_ _ | (refine Below.alloc ?_ (by first | exact Nat.le_refl _ | (simp; done) | (simp; omega) | (simp at *; omega)) _) | (refine Below.setCell ?_ (by first | exact Nat.le_refl _ | (simp; done) | (simp; omega)) _) | (refine Below.trans ?_ (Below.mono (by assumption) (by first | exact Nat.le_refl _ | (simp; done) | (simp; omega) | (simp at *; omega))))))
theorem implDecRead_yes (s : ByteArray) (w : World) (hM : MaxCell w) (h0 : 0 < s.size) (h1 : s.size ≤ 1000) (h2 : scanN (bs s) = s.size) (n' : Bool) (u : ByteArray) (y' c : Int)
    (hA : ∀ w, MaxCell w → Calls Tryz.prog 44 #[.string s] w fun e w' => e = .returned (.tuple #[.agg #[.bool n', .string u, .int .i64 y'], .int .i64 c]) ∧ Below w.heap.size w w') :
    Calls Tryz.prog 20 #[.string s] w fun e w' => e = .returned (.tuple #[.agg #[.bool n', .string u, .int .i64 y'], .int .i64 c]) ∧ Below w.heap.size w w' := by
  have HA := Lib.hid hA
  have hemp := isEmpty_no h0
  have hgt : ¬ 1000 < (s.size : Int) := by omega
  have hne : ((s.size : Int) != (s.size : Int)) = false := by simp
  have HM := Lib.hid (hM.below ((Below.refl _ w).alloc (Nat.le_refl _) (Obj.cells #[.bool false, .string ⟨#[]⟩, .int .i64 0] 23)))
  clear hA
  go_enter Tryz.func20, Tryz.ntmps20
  go_wp2_with (first | (go_at_call 43; refine (decEnd_to _ s.size _ (by omega) h2).mono ?_; rintro e w1 ⟨rfl, rfl⟩) | (go_at_call 44; refine (HA.out _ HM.out).mono ?_; rintro e w1 ⟨rfl, hb1⟩; obtain ⟨hb1c, hb1f⟩ := bcell hb1; have hb1q := hb1.size; (try simp at hb1q); have hb1q0 : w.heap.size < w1.heap.size := (by omega)))
  refine bodyPost_ret (v := .tuple #[.agg #[.bool n', .string u, .int .i64 y'], .int .i64 c]) (by simp [results, Tryz.results20, go_sem, *]) rfl ⟨rfl, ?_⟩
  go_light
  (repeat (first | exact Below.refl _ _ | assumption | refine Below.drew ?_ | refine Go.below_drewN ?_ _ | (refine Below.alloc ?_ (by first | exact Nat.le_refl _ | (simp; done) | (simp; omega) | (simp at *; omega)) _) | (refine Below.setCell ?_ (by first | exact Nat.le_refl _ | (simp; done) | (simp; omega)) _) | (refine Below.trans ?_ (Below.mono (by assumption) (by first | exact Nat.le_refl _ | (simp; done) | (simp; omega) | (simp at *; omega))))))
/-- a number's text has its parts -/
theorem read_parts {s : ByteArray} (h0 : 0 < s.size) (h2 : scanN (bs s) = s.size) : ∃ sg b d1 d2 ex sg2 d3, bs s = sg ++ (b ++ ex) ∧ IsSg sg ∧ IsBody b d1 d2 ∧ IsEx ex sg2 d3 :=
  scan_parts (by rw [h2, bs_length]) (fun e => by have := bs_length s; rw [e] at this; simp at this; omega)
theorem readV_lit (sg d1 d2 sg2 d3 : List UInt8) : ∃ (n' : Bool) (u : ByteArray) (y' c : Int), readV sg d1 d2 sg2 d3 = .tuple #[.agg #[.bool n', .string u, .int .i64 y'], .int .i64 c] := by
  obtain ⟨n', u, y', c, h, -⟩ := formV_lit (decide (sg = [45])) (val (d1 ++ d2)) (exV sg2 d3 - (d2.length : Int))
  exact ⟨n', u, y', c, h⟩
end Go.Proofs.YtjjpdoabagnmoaaGreatDoor
/-
  Plain facts: a number's text, whatever no number's part behind it, is scanned to its end. No program here. No condition.
-/
namespace Go.Proofs.YtjjpdoabagnmoaaGreatDoor
open Go.RowKit

/-- what stands behind a number's text and is no part of it -/
def NoPart (r : List UInt8) : Prop := ∀ c q, r = c :: q → isDig c = false ∧ c ≠ 46 ∧ c ≠ 101 ∧ c ≠ 69
theorem tw_app : ∀ (d t : List UInt8), d.all isDig = true → tw (d ++ t) = d.length + tw t
  | [], t, _ => by simp
  | c :: d, t, h => by
    rw [List.all_cons, Bool.and_eq_true] at h
    rw [List.cons_append, tw_dig h.1, tw_app d t h.2, List.length_cons]
    omega
theorem tw_none {t : List UInt8} (h : ∀ c q, t = c :: q → isDig c = false) : tw t = 0 := by
  cases t with
  | nil => rfl
  | cons c q => exact tw_stop (h c q rfl)
theorem sgN_app {sg t : List UInt8} (h : IsSg sg) (ht : ∀ c q, t = c :: q → c ≠ 43 ∧ c ≠ 45) : sgN (sg ++ t) = sg.length := by
  rcases h with rfl | rfl | rfl
  · cases t with
    | nil => rfl
    | cons c q =>
      obtain ⟨h1, h2⟩ := ht c q rfl
      rw [List.nil_append, sgN, if_neg (by rintro (e | e); exact h1 e; exact h2 e)]; rfl
  · rw [List.cons_append, sgN, if_pos (.inl rfl)]; rfl
  · rw [List.cons_append, sgN, if_pos (.inr rfl)]; rfl
theorem ex_first {ex sg d r : List UInt8} (h : IsEx ex sg d) (hr : NoPart r) : ∀ c q, ex ++ r = c :: q → isDig c = false ∧ c ≠ 46 := by
  rcases h with ⟨rfl, -, -⟩ | ⟨e, he, rfl, -, -, -⟩
  · intro c q hq
    obtain ⟨a, b, -, -⟩ := hr c q hq
    exact ⟨a, b⟩
  · intro c q hq
    simp only [List.cons_append, List.cons.injEq] at hq
    rw [← hq.1]
    rcases he with rfl | rfl <;> exact ⟨by decide, by decide⟩
theorem runM_app {b d1 d2 t : List UInt8} (h : IsBody b d1 d2) (ht : ∀ c q, t = c :: q → isDig c = false ∧ c ≠ 46) : runM false (b ++ t) = (b.length, (d1 ++ d2).length) := by
  have ht0 := tw_none (fun c q e => (ht c q e).1)
  rcases h with ⟨rfl, rfl, h1, h2⟩ | ⟨rfl, h1, h2, h3⟩
  · have e : tw (b ++ t) = b.length := by rw [tw_app b t h1, ht0]; rfl
    rw [runM_nodot (b ++ t) (fun c r hc => by rw [e, List.drop_left] at hc; exact (ht c r hc).2), e, List.append_nil]
  · have e : tw (d1 ++ (46 :: (d2 ++ t))) = d1.length := by rw [tw_app d1 _ h1, tw_stop (by decide)]; rfl
    have e2 : tw (d2 ++ t) = d2.length := by rw [tw_app d2 t h2, ht0]; rfl
    rw [List.append_assoc, List.cons_append, runM_dot _ (d2 ++ t) (by rw [e, List.drop_left]), e, e2]
    simp only [List.length_append, List.length_cons]
    congr 1
    omega
theorem expN_app {ex sg d r : List UInt8} (h : IsEx ex sg d) (hr : NoPart r) : expN (ex ++ r) = ex.length := by
  rcases h with ⟨rfl, -, -⟩ | ⟨e, he, rfl, hs, hd, hn⟩
  · cases r with
    | nil => rfl
    | cons c q =>
      obtain ⟨-, -, a, b⟩ := hr c q rfl
      rw [List.nil_append, expN, if_neg (by rintro (x | x); exact a x; exact b x)]; rfl
  · have hh : ∀ c q, d ++ r = c :: q → c ≠ 43 ∧ c ≠ 45 := by
      intro c q hq
      cases d with
      | nil => exact absurd rfl hn
      | cons x t =>
        rw [List.all_cons, Bool.and_eq_true] at hd
        simp only [List.cons_append, List.cons.injEq] at hq
        rw [← hq.1]
        refine ⟨?_, ?_⟩ <;> (rintro rfl; exact absurd hd.1 (by decide))
    have e1 := sgN_app (t := d ++ r) hs hh
    have e2 : tw (d ++ r) = d.length := by rw [tw_app d r hd, tw_none (fun c q e => (hr c q e).1)]; rfl
    have hp : 0 < d.length := List.length_pos_iff.2 hn
    rw [List.cons_append, List.append_assoc, expN, if_pos he, e1, List.drop_left, e2, if_pos hp, List.length_cons, List.length_append]
    omega
theorem scan_all {sg b d1 d2 ex sg2 d3 r : List UInt8} (h1 : IsSg sg) (h2 : IsBody b d1 d2) (h3 : IsEx ex sg2 d3) (hr : NoPart r) : scanN ((sg ++ (b ++ ex)) ++ r) = (sg ++ (b ++ ex)).length := by
  have hb : ∀ c q, b ++ (ex ++ r) = c :: q → c ≠ 43 ∧ c ≠ 45 := by
    obtain ⟨c, t, rfl, hc⟩ := body_head h2
    intro x y e
    simp only [List.cons_append, List.cons.injEq] at e
    rw [← e.1]
    rcases hc with hc | rfl
    · refine ⟨?_, ?_⟩ <;> (rintro rfl; exact absurd hc (by decide))
    · decide
  have e0 : (sg ++ (b ++ ex)) ++ r = sg ++ (b ++ (ex ++ r)) := by simp [List.append_assoc]
  have e1 := sgN_app h1 hb
  have e2 := runM_app h2 (ex_first h3 hr)
  have e3 := expN_app h3 hr
  have hn : (d1 ++ d2).length ≠ 0 := fun e => (body_digs h2).2.1 (List.eq_nil_of_length_eq_zero e)
  unfold scanN
  rw [e0, e1, List.drop_left, e2]
  simp only
  rw [if_neg hn, ← List.drop_drop, List.drop_left, List.drop_left, e3]
  simp only [List.length_append]
  omega
theorem noPart_nil : NoPart [] := fun c q e => by cases e
end Go.Proofs.YtjjpdoabagnmoaaGreatDoor
/-
  Plain facts: a number's text has a number's parts, and tells that number. No program here. Condition: a number in form.
-/
namespace Go.Proofs.YtjjpdoabagnmoaaGreatDoor
open Go.RowKit
set_option linter.unusedVariables false
set_option linter.unusedSimpArgs false

theorem sign_is (n : Bool) : IsSg (signL n) ∧ decide (signL n = [45]) = n := by
  cases n
  · exact ⟨.inl rfl, rfl⟩
  · exact ⟨.inr (.inr rfl), rfl⟩
theorem dec_height {n : Bool} {s : ByteArray} {x : Int} (h : decOk n (bs s) x = true) (h0 : 0 < s.size) : -99 ≤ x + (s.size : Int) - 1 ∧ x + (s.size : Int) - 1 ≤ 99 := by
  unfold decOk at h
  rw [if_neg (ne_nil h0)] at h
  simp only [Bool.and_eq_true, decide_eq_true_eq, bs_length] at h
  obtain ⟨⟨-, h5⟩, h6⟩ := h
  omega
theorem val_ahead (m : Nat) (l : List UInt8) : val ([48] ++ (zs m ++ l)) = val l := by
  rw [← List.append_assoc, val_append, val_zs]
  show 0 * 10 ^ m * 10 ^ l.length + val l = val l
  rw [Nat.zero_mul, Nat.zero_mul, Nat.zero_add]
theorem exV_pos (V : Nat) (h : V ≤ 99) : exV [43] (dec V) = (V : Int) := by
  unfold exV; rw [if_neg (by decide), val_dec, Nat.min_eq_right (by omega)]
theorem exV_neg (V : Nat) (h : V ≤ 99) : exV [45] (dec V) = -(V : Int) := by
  unfold exV; rw [if_pos rfl, val_dec, Nat.min_eq_right (by omega)]
theorem text_parts {n : Bool} {s : ByteArray} {x : Int} (h : decOk n (bs s) x = true) :
    ∃ sg b d1 d2 ex sg2 d3, textL n (bs s) x = sg ++ (b ++ ex) ∧ IsSg sg ∧ IsBody b d1 d2 ∧ IsEx ex sg2 d3 ∧ readV sg d1 d2 sg2 d3 = numV n (bs s) x 0 := by
  by_cases h0 : bs s = []
  · have hz := h
    rw [h0, decOk_nil] at hz
    simp at hz
    obtain ⟨rfl, rfl⟩ := hz
    refine ⟨[], [48], [48], [], [], [], [], ?_, .inl rfl, .inl ⟨rfl, rfl, rfl, by decide⟩, .inl ⟨rfl, rfl, rfl⟩, ?_⟩
    · unfold textL; rw [if_pos h0]; rfl
    · rw [h0]
      unfold readV formV
      rw [if_pos (by rfl)]
  · obtain ⟨hcan, hv, hl, hf⟩ := form_same h h0
    obtain ⟨a1, a2, a3, -⟩ := dec_facts h
    have hd := hcan.dig
    obtain ⟨sg1, sg2⟩ := sign_is n
    have hlp : 0 < (bs s).length := List.length_pos_iff.2 h0
    obtain ⟨l, hll⟩ : ∃ l, bs s = l := ⟨_, rfl⟩
    have hls : l.length = s.size := by rw [← hll, bs_length]
    rw [hll] at hv hl hf hd hlp h0 ⊢
    have ht1 : (l.take 1).all isDig = true := all_take hd 1
    have hd1 : (l.drop 1).all isDig = true := by
      rw [List.all_eq_true] at hd ⊢
      exact fun c hc => hd c (List.mem_of_mem_drop hc)
    have hnb : 0 < s.size := by omega
    have hHlo : -99 ≤ x + (l.length : Int) - 1 := by have := dec_height h hnb; omega
    have hHhi : x + (l.length : Int) - 1 ≤ 99 := by have := dec_height h hnb; omega
    unfold textL
    rw [if_neg h0]
    by_cases hw : betw (x + (l.length : Int) - 1) (-7) 20 = false
    · rw [if_pos hw]
      have hex : ∃ ex sg2' d3, (if x + (l.length : Int) - 1 < 0 then 101 :: 45 :: dec (-(x + (l.length : Int) - 1)).toNat else 101 :: 43 :: dec (x + (l.length : Int) - 1).toNat) = ex ∧ IsEx ex sg2' d3 ∧ exV sg2' d3 = x + (l.length : Int) - 1 := by
        by_cases hneg : x + (l.length : Int) - 1 < 0
        · rw [if_pos hneg]
          refine ⟨_, [45], dec (-(x + (l.length : Int) - 1)).toNat, rfl, .inr ⟨101, .inl rfl, rfl, .inr (.inr rfl), dec_all _, dec_ne _⟩, ?_⟩
          rw [exV_neg _ (by omega)]; omega
        · rw [if_neg hneg]
          refine ⟨_, [43], dec (x + (l.length : Int) - 1).toNat, rfl, .inr ⟨101, .inl rfl, rfl, .inr (.inl rfl), dec_all _, dec_ne _⟩, ?_⟩
          rw [exV_pos _ (by omega)]; omega
      obtain ⟨ex, sgx, d3, he1, he2, he3⟩ := hex
      rw [he1]
      by_cases h1 : 1 < l.length
      · rw [if_pos h1]
        refine ⟨signL n, l.take 1 ++ 46 :: l.drop 1, l.take 1, l.drop 1, ex, sgx, d3, by simp [List.append_assoc], sg1, .inr ⟨rfl, ht1, hd1, by rw [List.take_append_drop]; exact h0⟩, he2, ?_⟩
        unfold readV
        rw [sg2, List.take_append_drop, he3, List.length_drop, show x + (l.length : Int) - 1 - ((l.length - 1 : Nat) : Int) = x by omega]
        exact hf
      · rw [if_neg h1]
        have ht : l.take 1 = l := List.take_of_length_le (by omega)
        refine ⟨signL n, l, l, [], ex, sgx, d3, by rw [ht]; simp [List.append_assoc], sg1, .inl ⟨rfl, rfl, hd, h0⟩, he2, ?_⟩
        unfold readV
        rw [sg2, List.append_nil, he3, show x + (l.length : Int) - 1 - (([] : List UInt8).length : Int) = x by simp; omega]
        exact hf
    · rw [if_neg hw]
      by_cases hx : 0 ≤ x
      · rw [if_pos hx]
        refine ⟨signL n, l ++ zs x.toNat, l ++ zs x.toNat, [], [], [], [], by simp [List.append_assoc], sg1, .inl ⟨rfl, rfl, all_zs hd _, by simp [h0]⟩, .inl ⟨rfl, rfl, rfl⟩, ?_⟩
        unfold readV
        have ht := formV_tens n (val l) x x.toNat
        rw [show x - (x.toNat : Int) = 0 by omega] at ht
        rw [sg2, List.append_nil, val_zs, show exV [] [] - (([] : List UInt8).length : Int) = 0 from rfl, ht]
        exact hf
      · rw [if_neg hx]
        by_cases hH : x + (l.length : Int) - 1 < 0
        · rw [if_pos hH]
          obtain ⟨m, hm⟩ : ∃ m, (-(x + (l.length : Int) - 1) - 1).toNat = m := ⟨_, rfl⟩
          rw [hm]
          refine ⟨signL n, [48] ++ 46 :: (zs m ++ l), [48], zs m ++ l, [], [], [], by simp [List.append_assoc], sg1, .inr ⟨rfl, rfl, by rw [List.all_append, hd, show zs m = [] ++ zs m from rfl, all_zs rfl]; rfl, by simp⟩, .inl ⟨rfl, rfl, rfl⟩, ?_⟩
          unfold readV
          rw [sg2, val_ahead, List.length_append, zs_len, show exV [] [] - ((m + l.length : Nat) : Int) = x by show (0 : Int) - _ = x; omega]
          exact hf
        · rw [if_neg hH]
          obtain ⟨k, hk⟩ : ∃ k, (x + (l.length : Int)).toNat = k := ⟨_, rfl⟩
          rw [hk]
          have htk : (l.take k).all isDig = true := all_take hd k
          have hdk : (l.drop k).all isDig = true := by
            rw [List.all_eq_true] at hd ⊢
            exact fun c hc => hd c (List.mem_of_mem_drop hc)
          refine ⟨signL n, l.take k ++ 46 :: l.drop k, l.take k, l.drop k, [], [], [], by simp [List.append_assoc], sg1, .inr ⟨rfl, htk, hdk, by rw [List.take_append_drop]; exact h0⟩, .inl ⟨rfl, rfl, rfl⟩, ?_⟩
          unfold readV
          rw [sg2, List.take_append_drop, List.length_drop, show exV [] [] - ((l.length - k : Nat) : Int) = x by show (0 : Int) - _ = x; omega]
          exact hf
/-- a number's text is read to its end -/
theorem text_scan {n : Bool} {s : ByteArray} {x : Int} (h : decOk n (bs s) x = true) (r : List UInt8) (hr : NoPart r) : scanN (textL n (bs s) x ++ r) = (textL n (bs s) x).length := by
  obtain ⟨sg, b, d1, d2, ex, sg2, d3, e, h1, h2, h3, -⟩ := text_parts h
  rw [e]
  exact scan_all h1 h2 h3 hr
end Go.Proofs.YtjjpdoabagnmoaaGreatDoor
/-
  Plain facts on texts in UTF-8: the reference's own step (nx) is the model's decoder's wherever it takes a code point; the code points of a text (runes); a code point's bytes (ptBytes). No program here. No condition.
-/
namespace Go.Proofs.YtjjpdoabagnmoaaGreatDoor
open Go.Lib

/-- a lead byte of the reference: how many bytes, and what the number begins with; 0 of none -/
def leadL (b : Nat) : Nat × Nat :=
  if b < 128 then (1, b) else if 192 ≤ b ∧ b ≤ 223 then (2, b - 192) else if 224 ≤ b ∧ b ≤ 239 then (3, b - 224) else if 240 ≤ b ∧ b ≤ 247 then (4, b - 240) else (0, 0)
/-- the number behind so many further bytes -/
def accL (c0 : Nat) (l : List UInt8) : Nat → Nat
  | 0 => c0
  | k + 1 => 64 * accL c0 l k + (l.getD (k + 1) 0).toNat - 128
def isCont (l : List UInt8) (k : Nat) : Bool := decide (128 ≤ (l.getD k 0).toNat) && decide ((l.getD k 0).toNat ≤ 191)
def contsL (l : List UInt8) : Nat → Bool
  | 0 => true
  | k + 1 => contsL l k && isCont l (k + 1)
def ptLen (c : Nat) : Nat := if c < 128 then 1 else if c < 2048 then 2 else if c < 65536 then 3 else 4
/-- the reference's step: a code point and its bytes' number; (0, 0) of none -/
def nx (l : List UInt8) : Nat × Nat :=
  let n := (leadL (l.getD 0 0).toNat).1
  let c := accL (leadL (l.getD 0 0).toNat).2 l (n - 1)
  if n = 0 ∨ l.length < n then (0, 0) else if contsL l (n - 1) = false then (0, 0) else if isPt (c : Int) = true ∧ ptLen c = n then (c, n) else (0, 0)

theorem isCont_iff (l : List UInt8) (k : Nat) : isCont l k = true ↔ 128 ≤ (l.getD k 0).toNat ∧ (l.getD k 0).toNat ≤ 191 := by
  unfold isCont; simp

/-- the step, number by number -/
def nxN (n b0 b1 b2 b3 : Nat) : Nat × Nat :=
  if b0 < 128 then (if 1 ≤ b0 then (b0, 1) else (0, 0))
  else if 192 ≤ b0 ∧ b0 ≤ 223 then (if 2 ≤ n ∧ (128 ≤ b1 ∧ b1 ≤ 191) ∧ 128 ≤ 64 * (b0 - 192) + b1 - 128 then (64 * (b0 - 192) + b1 - 128, 2) else (0, 0))
  else if 224 ≤ b0 ∧ b0 ≤ 239 then
    (if 3 ≤ n ∧ (128 ≤ b1 ∧ b1 ≤ 191) ∧ (128 ≤ b2 ∧ b2 ≤ 191) ∧ 2048 ≤ 64 * (64 * (b0 - 224) + b1 - 128) + b2 - 128 ∧ ¬ (55296 ≤ 64 * (64 * (b0 - 224) + b1 - 128) + b2 - 128 ∧ 64 * (64 * (b0 - 224) + b1 - 128) + b2 - 128 ≤ 57343)
     then (64 * (64 * (b0 - 224) + b1 - 128) + b2 - 128, 3) else (0, 0))
  else if 240 ≤ b0 ∧ b0 ≤ 247 then
    (if 4 ≤ n ∧ (128 ≤ b1 ∧ b1 ≤ 191) ∧ (128 ≤ b2 ∧ b2 ≤ 191) ∧ (128 ≤ b3 ∧ b3 ≤ 191) ∧ 65536 ≤ 64 * (64 * (64 * (b0 - 240) + b1 - 128) + b2 - 128) + b3 - 128 ∧ 64 * (64 * (64 * (b0 - 240) + b1 - 128) + b2 - 128) + b3 - 128 ≤ 1114111
     then (64 * (64 * (64 * (b0 - 240) + b1 - 128) + b2 - 128) + b3 - 128, 4) else (0, 0))
  else (0, 0)

theorem ptLen_iff (c : Nat) : (ptLen c = 1 ↔ c < 128) ∧ (ptLen c = 2 ↔ 128 ≤ c ∧ c < 2048) ∧ (ptLen c = 3 ↔ 2048 ≤ c ∧ c < 65536) ∧ (ptLen c = 4 ↔ 65536 ≤ c) := by
  unfold ptLen
  by_cases h1 : c < 128
  · rw [if_pos h1]; omega
  by_cases h2 : c < 2048
  · rw [if_neg h1, if_pos h2]; omega
  by_cases h3 : c < 65536
  · rw [if_neg h1, if_neg h2, if_pos h3]; omega
  · rw [if_neg h1, if_neg h2, if_neg h3]; omega

theorem ite3 {α : Type} {A B C D : Prop} [Decidable A] [Decidable B] [Decidable C] [Decidable D] (x y : α) (h : D ↔ ¬ A ∧ ¬ B ∧ C) :
    (if A then y else if B then y else if C then x else y) = if D then x else y := by
  by_cases a : A
  · rw [if_pos a, if_neg (fun d => (h.1 d).1 a)]
  · rw [if_neg a]
    by_cases b : B
    · rw [if_pos b, if_neg (fun d => (h.1 d).2.1 b)]
    · rw [if_neg b]
      by_cases c : C
      · rw [if_pos c, if_pos (h.2 ⟨a, b, c⟩)]
      · rw [if_neg c, if_neg (fun d => c (h.1 d).2.2)]

theorem contsL_iff (l : List UInt8) (k : Nat) : (¬ contsL l (k + 1) = false) ↔ (¬ contsL l k = false) ∧ (128 ≤ (l.getD (k + 1) 0).toNat ∧ (l.getD (k + 1) 0).toNat ≤ 191) := by
  rw [← isCont_iff]
  show (¬ (contsL l k && isCont l (k + 1)) = false) ↔ _
  cases contsL l k <;> cases isCont l (k + 1) <;> simp

theorem nx_N (l : List UInt8) (hne : l ≠ []) : nx l = nxN l.length (l.getD 0 0).toNat (l.getD 1 0).toNat (l.getD 2 0).toNat (l.getD 3 0).toNat := by
  have hl : 0 < l.length := List.length_pos_iff.2 hne
  have k0 := (l.getD 0 0).toNat_lt
  have k1 := (l.getD 1 0).toNat_lt
  have k2 := (l.getD 2 0).toNat_lt
  have k3 := (l.getD 3 0).toNat_lt
  have hz : (¬ contsL l 0 = false) = True := by simp [contsL]
  unfold nx nxN leadL
  by_cases c1 : (l.getD 0 0).toNat < 128
  · rw [if_pos c1, if_pos c1]
    show (if 1 = 0 ∨ l.length < 1 then _ else if contsL l 0 = false then _ else if isPt (((l.getD 0 0).toNat : Nat) : Int) = true ∧ ptLen (l.getD 0 0).toNat = 1 then ((l.getD 0 0).toNat, 1) else (0, 0)) = _
    refine ite3 _ _ ?_
    rw [isPt_iff, (ptLen_iff _).1, hz]
    simp only [true_and]
    generalize (l.getD 0 0).toNat = b0 at *
    omega
  rw [if_neg c1, if_neg c1]
  by_cases c2 : 192 ≤ (l.getD 0 0).toNat ∧ (l.getD 0 0).toNat ≤ 223
  · rw [if_pos c2, if_pos c2]
    show (if 2 = 0 ∨ l.length < 2 then _ else if contsL l 1 = false then _ else if isPt ((64 * ((l.getD 0 0).toNat - 192) + (l.getD 1 0).toNat - 128 : Nat) : Int) = true ∧ ptLen (64 * ((l.getD 0 0).toNat - 192) + (l.getD 1 0).toNat - 128) = 2 then (64 * ((l.getD 0 0).toNat - 192) + (l.getD 1 0).toNat - 128, 2) else (0, 0)) = _
    refine ite3 _ _ ?_
    rw [isPt_iff, (ptLen_iff _).2.1, contsL_iff l 0, hz]
    simp only [true_and]
    generalize (l.getD 0 0).toNat = b0 at *
    generalize (l.getD (0 + 1) 0).toNat = b1 at *
    omega
  rw [if_neg c2, if_neg c2]
  by_cases c3 : 224 ≤ (l.getD 0 0).toNat ∧ (l.getD 0 0).toNat ≤ 239
  · rw [if_pos c3, if_pos c3]
    show (if 3 = 0 ∨ l.length < 3 then _ else if contsL l 2 = false then _ else if isPt ((64 * (64 * ((l.getD 0 0).toNat - 224) + (l.getD 1 0).toNat - 128) + (l.getD 2 0).toNat - 128 : Nat) : Int) = true ∧ ptLen (64 * (64 * ((l.getD 0 0).toNat - 224) + (l.getD 1 0).toNat - 128) + (l.getD 2 0).toNat - 128) = 3 then (64 * (64 * ((l.getD 0 0).toNat - 224) + (l.getD 1 0).toNat - 128) + (l.getD 2 0).toNat - 128, 3) else (0, 0)) = _
    refine ite3 _ _ ?_
    rw [isPt_iff, (ptLen_iff _).2.2.1, contsL_iff l 1, contsL_iff l 0, hz]
    simp only [true_and]
    generalize (l.getD 0 0).toNat = b0 at *
    generalize (l.getD (0 + 1) 0).toNat = b1 at *
    generalize (l.getD (1 + 1) 0).toNat = b2 at *
    omega
  rw [if_neg c3, if_neg c3]
  by_cases c4 : 240 ≤ (l.getD 0 0).toNat ∧ (l.getD 0 0).toNat ≤ 247
  · rw [if_pos c4, if_pos c4]
    show (if 4 = 0 ∨ l.length < 4 then _ else if contsL l 3 = false then _ else if isPt ((64 * (64 * (64 * ((l.getD 0 0).toNat - 240) + (l.getD 1 0).toNat - 128) + (l.getD 2 0).toNat - 128) + (l.getD 3 0).toNat - 128 : Nat) : Int) = true ∧ ptLen (64 * (64 * (64 * ((l.getD 0 0).toNat - 240) + (l.getD 1 0).toNat - 128) + (l.getD 2 0).toNat - 128) + (l.getD 3 0).toNat - 128) = 4 then (64 * (64 * (64 * ((l.getD 0 0).toNat - 240) + (l.getD 1 0).toNat - 128) + (l.getD 2 0).toNat - 128) + (l.getD 3 0).toNat - 128, 4) else (0, 0)) = _
    refine ite3 _ _ ?_
    rw [isPt_iff, (ptLen_iff _).2.2.2, contsL_iff l 2, contsL_iff l 1, contsL_iff l 0, hz]
    simp only [true_and]
    generalize (l.getD 0 0).toNat = b0 at *
    generalize (l.getD (0 + 1) 0).toNat = b1 at *
    generalize (l.getD (1 + 1) 0).toNat = b2 at *
    generalize (l.getD (2 + 1) 0).toNat = b3 at *
    omega
  · rw [if_neg c4, if_neg c4]
    rfl

theorem accL_lt (c0 : Nat) (l : List UInt8) (hc : c0 < 32) : ∀ k, contsL l k = true → accL c0 l k + 1 ≤ 32 * 64 ^ k
  | 0, _ => by show c0 + 1 ≤ 32 * 1; omega
  | k + 1, h => by
    have h' : (contsL l k && isCont l (k + 1)) = true := h
    rw [Bool.and_eq_true, isCont_iff] at h'
    have ih := accL_lt c0 l hc k h'.1
    show 64 * accL c0 l k + (l.getD (k + 1) 0).toNat - 128 + 1 ≤ _
    rw [Nat.pow_succ]
    omega
theorem accL_small {c0 : Nat} {l : List UInt8} {k : Nat} (hc : c0 < 32) (h : contsL l k = true) (hk : k ≤ 3) : accL c0 l k < 8388608 := by
  have h1 := accL_lt c0 l hc k h
  have h2 : 64 ^ k ≤ 64 ^ 3 := Nat.pow_le_pow_right (by omega) hk
  have h3 : 64 ^ 3 = 262144 := by simp
  rw [h3] at h2
  obtain ⟨p, hp⟩ : ∃ p, 64 ^ k = p := ⟨_, rfl⟩
  rw [hp] at h1 h2
  clear hp
  omega
theorem contsL_no {l : List UInt8} {j : Nat} (h1 : 1 ≤ j) (hc : isCont l j = false) : ∀ k, j ≤ k → contsL l k = false
  | 0, h => by omega
  | k + 1, h => by
    show (contsL l k && isCont l (k + 1)) = false
    by_cases e : j = k + 1
    · rw [← e, hc, Bool.and_false]
    · rw [contsL_no h1 hc k (by omega), Bool.false_and]
theorem contsL_succ {l : List UInt8} {k : Nat} (h : contsL l k = true) (hc : isCont l (k + 1) = true) : contsL l (k + 1) = true := by
  show (contsL l k && isCont l (k + 1)) = true
  rw [h, hc]; rfl
theorem nx_of {l : List UInt8} {n c0 : Nat} (hl : leadL (l.getD 0 0).toNat = (n, c0)) (hn : n ≠ 0) (hlen : n ≤ l.length) :
    nx l = if contsL l (n - 1) = false then (0, 0) else if isPt ((accL c0 l (n - 1) : Nat) : Int) = true ∧ ptLen (accL c0 l (n - 1)) = n then (accL c0 l (n - 1), n) else (0, 0) := by
  unfold nx; rw [hl]; show (if n = 0 ∨ l.length < n then _ else _) = _
  rw [if_neg (by omega)]
theorem nx_short {l : List UInt8} {n c0 : Nat} (hl : leadL (l.getD 0 0).toNat = (n, c0)) (hlen : n = 0 ∨ l.length < n) : nx l = (0, 0) := by
  unfold nx; rw [hl]; show (if n = 0 ∨ l.length < n then _ else _) = _
  rw [if_pos hlen]
theorem ptLen_cells {c : Nat} (h : isPt (c : Int) = true) : (runeCells (c : Int)).length = ptLen c := by
  rw [isPt_iff] at h
  unfold runeCells ptLen
  rw [List.length_map]
  by_cases c1 : c < 128
  · rw [if_pos c1, encodeRuneZ_one (by omega) (by omega)]; rfl
  by_cases c2 : c < 2048
  · rw [if_neg c1, if_pos c2, encodeRuneZ_two (by omega) (by omega)]; rfl
  by_cases c3 : c < 65536
  · rw [if_neg c1, if_neg c2, if_pos c3, encodeRuneZ_three (by omega)]; rfl
  · rw [if_neg c1, if_neg c2, if_neg c3, encodeRuneZ_four (by omega) (by omega)]; rfl

/-- THE STEP AGAINST THE MODEL's DECODER -/
theorem nxN_decode (n b0 b1 b2 b3 : Nat) (hn : 1 ≤ n) (k0 : b0 < 256) (k1 : b1 < 256) (k2 : b2 < 256) (k3 : b3 < 256) :
    (nxN n b0 b1 b2 b3 = (0, 0) ∧ (decodeN n b0 b1 b2 b3 = (65533, 1) ∨ b0 = 0)) ∨
    (nxN n b0 b1 b2 b3 = decodeN n b0 b1 b2 b3 ∧ 1 ≤ b0 ∧ ¬ ((decodeN n b0 b1 b2 b3).1 = 65533 ∧ (decodeN n b0 b1 b2 b3).2 = 1) ∧ isPt ((decodeN n b0 b1 b2 b3).1 : Int) = true ∧ (decodeN n b0 b1 b2 b3).2 ≤ n
      ∧ (2 ≤ (decodeN n b0 b1 b2 b3).2 → 128 ≤ b0 ∧ 128 ≤ b1) ∧ (3 ≤ (decodeN n b0 b1 b2 b3).2 → 128 ≤ b2) ∧ (4 ≤ (decodeN n b0 b1 b2 b3).2 → 128 ≤ b3) ∧ (decodeN n b0 b1 b2 b3).2 ≤ 4) := by
  rcases decodeN_shape n b0 b1 b2 b3 with ⟨c, e⟩ | ⟨c1, c2, c3, cv, e⟩ | ⟨c1, c2, c3, c4, cv, cs, e⟩ | ⟨c1, c2, c3, c4, c5, cv, cw, e⟩ | e
  · by_cases h0 : b0 = 0
    · left; subst h0; exact ⟨by simp [nxN], .inr rfl⟩
    · right
      rw [e]
      refine ⟨by unfold nxN; rw [if_pos c, if_pos (by omega)], by omega, by simp; omega, by rw [isPt_iff]; simp only []; omega, hn, fun h => by simp at h, fun h => by simp at h, fun h => by simp at h, by simp⟩
  · right
    rw [e]
    have ev : b0 % 32 * 64 + b1 % 64 = 64 * (b0 - 192) + b1 - 128 := by omega
    refine ⟨?_, by omega, by simp, by rw [isPt_iff]; simp only []; omega, by simp only []; omega, fun _ => by omega, fun h => by simp at h, fun h => by simp at h, by simp⟩
    unfold nxN
    rw [if_neg (by omega), if_pos (by omega), if_pos (by omega), ev]
  · right
    rw [e]
    have ev : b0 % 16 * 4096 + b1 % 64 * 64 + b2 % 64 = 64 * (64 * (b0 - 224) + b1 - 128) + b2 - 128 := by omega
    refine ⟨?_, by omega, by simp, by rw [isPt_iff]; simp only []; omega, by simp only []; omega, fun _ => by omega, fun _ => by omega, fun h => by simp at h, by simp⟩
    unfold nxN
    rw [if_neg (by omega), if_neg (by omega), if_pos (by omega), if_pos (by omega), ev]
  · right
    rw [e]
    have ev : b0 % 8 * 262144 + b1 % 64 * 4096 + b2 % 64 * 64 + b3 % 64 = 64 * (64 * (64 * (b0 - 240) + b1 - 128) + b2 - 128) + b3 - 128 := by omega
    refine ⟨?_, by omega, by simp, by rw [isPt_iff]; simp only []; omega, by simp only []; omega, fun _ => by omega, fun _ => by omega, fun _ => by omega, by simp⟩
    unfold nxN
    rw [if_neg (by omega), if_neg (by omega), if_neg (by omega), if_pos (by omega), if_pos (by omega), ev]
  · left
    refine ⟨?_, .inl e⟩
    unfold decodeN at e
    unfold nxN
    by_cases a1 : b0 < 128
    · rw [if_pos a1] at e; simp at e; omega
    rw [if_neg a1] at e ⊢
    by_cases a2 : 192 ≤ b0 ∧ b0 ≤ 223
    · rw [if_pos a2, if_neg]
      rintro ⟨h1, h2, h3⟩
      rw [if_pos (by omega), if_pos (by omega)] at e
      simp at e
    rw [if_neg a2]
    by_cases a3 : 224 ≤ b0 ∧ b0 ≤ 239
    · rw [if_pos a3, if_neg]
      rintro ⟨h1, h2, h3, h4, h5⟩
      rw [if_neg (by omega), if_pos (by omega), if_pos (by omega)] at e
      simp at e
    rw [if_neg a3]
    by_cases a4 : 240 ≤ b0 ∧ b0 ≤ 247
    · rw [if_pos a4, if_neg]
      rintro ⟨h1, h2, h3, h4, h5, h6⟩
      rw [if_neg (by omega), if_neg (by omega), if_pos (by omega), if_pos (by omega)] at e
      simp at e
    rw [if_neg a4]

theorem getD_mem_take {l : List UInt8} {x : UInt8} {n : Nat} (h : x ∈ l.take n) : ∃ j, j < n ∧ j < l.length ∧ l.getD j 0 = x := by
  obtain ⟨j, hj, e⟩ := List.getElem_of_mem h
  rw [List.length_take] at hj
  refine ⟨j, by omega, by omega, ?_⟩
  rw [List.getElem_take] at e
  rw [List.getD_eq_getElem?_getD, List.getElem?_eq_getElem (by omega)]
  exact e

/-- the step, of a list -/
theorem nx_decode (l : List UInt8) (hne : l ≠ []) :
    (nx l = (0, 0) ∧ (decodeL l = (65533, 1) ∨ l.getD 0 0 = 0)) ∨
    (nx l = decodeL l ∧ ¬ ((decodeL l).1 = 65533 ∧ (decodeL l).2 = 1) ∧ isPt ((decodeL l).1 : Int) = true ∧ 1 ≤ (decodeL l).2 ∧ (decodeL l).2 ≤ l.length ∧ (∀ x ∈ l.take (decodeL l).2, x ≠ 0)
      ∧ (2 ≤ (decodeL l).2 → ∀ x ∈ l.take (decodeL l).2, 128 ≤ x.toNat)) := by
  have hl : 0 < l.length := List.length_pos_iff.2 hne
  have hw := decodeL_width l
  rw [nx_N l hne]
  rw [decodeL_N] at hw ⊢
  rcases nxN_decode l.length (l.getD 0 0).toNat (l.getD 1 0).toNat (l.getD 2 0).toNat (l.getD 3 0).toNat hl (l.getD 0 0).toNat_lt (l.getD 1 0).toNat_lt (l.getD 2 0).toNat_lt (l.getD 3 0).toNat_lt with ⟨h1, h2⟩ | ⟨h1, h2, h3, h4, h5, h6, h7, h8, h9⟩
  · left
    refine ⟨h1, ?_⟩
    rcases h2 with h2 | h2
    · exact .inl h2
    · exact .inr (UInt8.toNat_inj.1 (by rw [h2]; rfl))
  · right
    refine ⟨h1, h3, h4, hw, h5, ?_, ?_⟩
    · intro x hx e
      obtain ⟨j, hj, hjl, ej⟩ := getD_mem_take hx
      rw [e] at ej
      have z : (0 : UInt8).toNat = 0 := rfl
      have hj4 : j = 0 ∨ j = 1 ∨ j = 2 ∨ j = 3 := by omega
      rcases hj4 with rfl | rfl | rfl | rfl
      · rw [ej, z] at h2; omega
      · have := (h6 (by omega)).2; rw [ej, z] at this; omega
      · have := h7 (by omega); rw [ej, z] at this; omega
      · have := h8 (by omega); rw [ej, z] at this; omega
    · intro h x hx
      obtain ⟨j, hj, hjl, ej⟩ := getD_mem_take hx
      have hj4 : j = 0 ∨ j = 1 ∨ j = 2 ∨ j = 3 := by omega
      rcases hj4 with rfl | rfl | rfl | rfl
      · rw [← ej]; exact (h6 h).1
      · rw [← ej]; exact (h6 h).2
      · rw [← ej]; exact h7 (by omega)
      · rw [← ej]; exact h8 (by omega)

/-- THE CODE POINTS OF A TEXT; none of what is no text -/
def runesF : Nat → List UInt8 → Option (List Nat)
  | 0, _ => some []
  | f + 1, l => if l = [] then some [] else if (nx l).2 = 0 then none else (runesF f (l.drop (nx l).2)).map ((nx l).1 :: ·)
def runes (l : List UInt8) : Option (List Nat) := runesF l.length l

theorem runesF_nil (f : Nat) : runesF f [] = some [] := by cases f <;> simp [runesF]
theorem runesF_fuel : ∀ (f g : Nat) (l : List UInt8), l.length ≤ f → l.length ≤ g → runesF f l = runesF g l
  | 0, g, l, h, _ => by
    have : l = [] := List.eq_nil_of_length_eq_zero (by omega)
    subst this; rw [runesF_nil, runesF_nil]
  | f + 1, 0, l, _, h => by
    have : l = [] := List.eq_nil_of_length_eq_zero (by omega)
    subst this; rw [runesF_nil, runesF_nil]
  | f + 1, g + 1, l, h, h' => by
    unfold runesF
    by_cases hne : l = []
    · rw [if_pos hne, if_pos hne]
    · rw [if_neg hne, if_neg hne]
      by_cases h0 : (nx l).2 = 0
      · rw [if_pos h0, if_pos h0]
      · rw [if_neg h0, if_neg h0, runesF_fuel f g (l.drop (nx l).2) (by rw [List.length_drop]; omega) (by rw [List.length_drop]; omega)]
theorem runes_nil : runes [] = some [] := rfl
theorem runes_step (l : List UInt8) (hne : l ≠ []) : runes l = if (nx l).2 = 0 then none else (runes (l.drop (nx l).2)).map ((nx l).1 :: ·) := by
  have hl : 0 < l.length := List.length_pos_iff.2 hne
  obtain ⟨n, hn⟩ : ∃ n, l.length = n + 1 := ⟨l.length - 1, by omega⟩
  unfold runes
  rw [hn]
  conv => lhs; unfold runesF
  rw [if_neg hne]
  by_cases h0 : (nx l).2 = 0
  · rw [if_pos h0, if_pos h0]
  · rw [if_neg h0, if_neg h0, runesF_fuel n (l.drop (nx l).2).length (l.drop (nx l).2) (by rw [List.length_drop]; omega) (Nat.le_refl _)]

/-- a text is one that the decoder takes, without a byte 0 -/
theorem runes_valid : ∀ (n : Nat) (l : List UInt8), l.length ≤ n → ((runes l).isSome = true ↔ validD l = true ∧ ∀ x ∈ l, x ≠ 0)
  | 0, l, h => by
    have : l = [] := List.eq_nil_of_length_eq_zero (by omega)
    subst this; simp [runes_nil, validD_nil]
  | n + 1, l, h => by
    by_cases hne : l = []
    · subst hne; simp [runes_nil, validD_nil]
    rw [runes_step l hne, validD_step l hne]
    rcases nx_decode l hne with ⟨h1, h2⟩ | ⟨h1, h2, h3, h4, h5, h6, _⟩
    · rw [h1]
      simp only [if_true]
      constructor
      · intro h; simp at h
      · rintro ⟨h3, h4⟩
        rcases h2 with h2 | h2
        · rw [h2] at h3; simp at h3
        · exact absurd h2 (h4 _ (by
            cases l with
            | nil => exact absurd rfl hne
            | cons a t => simp))
    · rw [h1, if_neg (by omega), if_neg h2]
      have ih := runes_valid n (l.drop (decodeL l).2) (by rw [List.length_drop]; omega)
      rw [Option.isSome_map, ih]
      constructor
      · rintro ⟨a, b⟩
        refine ⟨a, fun x hx => ?_⟩
        rw [← List.take_append_drop (decodeL l).2 l, List.mem_append] at hx
        rcases hx with hx | hx
        · exact h6 x hx
        · exact b x hx
      · rintro ⟨a, b⟩
        exact ⟨a, fun x hx => b x (List.mem_of_mem_drop hx)⟩

/-- a code point's bytes -/
def ptBytes (c : Nat) : List UInt8 := encodeRune (c : Int)

/-- a text's code points, step by step, are the decoder's; their bytes are the text -/
theorem runes_cons {l : List UInt8} {r : List Nat} (hne : l ≠ []) (h : runes l = some r) :
    ∃ t, r = (decodeL l).1 :: t ∧ runes (l.drop (decodeL l).2) = some t ∧ l.take (decodeL l).2 = ptBytes (decodeL l).1 ∧ 1 ≤ (decodeL l).2 ∧ (decodeL l).2 ≤ l.length ∧ isPt ((decodeL l).1 : Int) = true := by
  rw [runes_step l hne] at h
  rcases nx_decode l hne with ⟨h1, _⟩ | ⟨h1, h2, h3, h4, h5, _, _⟩
  · rw [h1] at h; simp at h
  · rw [h1, if_neg (by omega), Option.map_eq_some_iff] at h
    obtain ⟨t, ht, e⟩ := h
    exact ⟨t, e.symm, ht, (encode_decode l hne h2).symm, h4, h5, h3⟩

theorem runes_flat : ∀ (n : Nat) (l : List UInt8) (r : List Nat), l.length ≤ n → runes l = some r → l = r.flatMap ptBytes ∧ ∀ c ∈ r, isPt (c : Int) = true
  | 0, l, r, hn, h => by
    have : l = [] := List.eq_nil_of_length_eq_zero (by omega)
    subst this
    rw [runes_nil] at h
    simp at h; subst h; simp
  | n + 1, l, r, hn, h => by
    by_cases hne : l = []
    · subst hne
      rw [runes_nil] at h
      simp at h; subst h; simp
    obtain ⟨t, rfl, ht, hb, h1, h2, h3⟩ := runes_cons hne h
    obtain ⟨i1, i2⟩ := runes_flat n (l.drop (decodeL l).2) t (by rw [List.length_drop]; omega) ht
    refine ⟨?_, ?_⟩
    · rw [List.flatMap_cons, ← hb, ← i1, List.take_append_drop]
    · intro c hc
      rcases List.mem_cons.1 hc with rfl | hc
      · exact h3
      · exact i2 c hc
end Go.Proofs.YtjjpdoabagnmoaaGreatDoor
/-
  The contract of l01Bytes: a code point's bytes in a new row. Condition: the number is a code point.
-/
namespace Go.Proofs.YtjjpdoabagnmoaaGreatDoor
open Go.RowKit Go.Lib
set_option linter.unusedVariables false
set_option linter.unusedSimpArgs false

theorem l01Bytes_any (c : Int) (h : isPt c = true) (w : World) :
    Calls Tryz.prog 145 #[.int .i64 c] w fun e w' => e = .returned (.slice (some ⟨w.heap.size, 0, none⟩) (runeCells c).length (runeCells c).length) ∧ w' = w.alloc (.cells (runeCells c).toArray 5) := by
  rw [isPt_iff] at h
  obtain ⟨h1, h2, h3⟩ := h
  by_cases c1 : c < 128
  · have e : runeCells c = [.int .u8 c] := by unfold runeCells; rw [encodeRuneZ_one (by omega) (by omega)]; rfl
    rw [e]
    clear h3
    go_enter Tryz.func145, Tryz.ntmps145
    go_wp2
    go_ret
    exact ⟨rfl, rfl⟩
  by_cases c2 : c < 2048
  · have e : runeCells c = [.int .u8 (192 + c / 64), .int .u8 (128 + c % 64)] := by unfold runeCells; rw [encodeRuneZ_two (by omega) (by omega)]; rfl
    rw [e]
    clear h3
    have k1 : 0 ≤ c / 64 := by omega
    have k2 : c / 64 < 32 := by omega
    have k3 : 0 ≤ c % 64 := by omega
    have k4 : c % 64 < 64 := by omega
    go_enter Tryz.func145, Tryz.ntmps145
    go_wp2
    go_ret
    exact ⟨rfl, rfl⟩
  by_cases c3 : c < 65536
  · have e : runeCells c = [.int .u8 (224 + c / 4096), .int .u8 (128 + c / 64 % 64), .int .u8 (128 + c % 64)] := by unfold runeCells; rw [encodeRuneZ_three (by omega)]; rfl
    rw [e]
    clear h3
    have k1 : 0 ≤ c / 4096 := by omega
    have k2 : c / 4096 < 16 := by omega
    have k3 : 0 ≤ c % 64 := by omega
    have k4 : c % 64 < 64 := by omega
    have k5 : 0 ≤ c / 64 := by omega
    have k6 : c / 64 < 1024 := by omega
    have k7 : 0 ≤ c / 64 % 64 := by omega
    have k8 : c / 64 % 64 < 64 := by omega
    go_enter Tryz.func145, Tryz.ntmps145
    go_wp2
    go_ret
    exact ⟨rfl, rfl⟩
  · have e : runeCells c = [.int .u8 (240 + c / 262144), .int .u8 (128 + c / 4096 % 64), .int .u8 (128 + c / 64 % 64), .int .u8 (128 + c % 64)] := by unfold runeCells; rw [encodeRuneZ_four (by omega) (by omega)]; rfl
    rw [e]
    clear h3
    have k1 : 0 ≤ c / 262144 := by omega
    have k2 : c / 262144 < 8 := by omega
    have k3 : 0 ≤ c % 64 := by omega
    have k4 : c % 64 < 64 := by omega
    have k5 : 0 ≤ c / 64 := by omega
    have k6 : c / 64 < 32768 := by omega
    have k7 : 0 ≤ c / 64 % 64 := by omega
    have k8 : c / 64 % 64 < 64 := by omega
    have k9 : 0 ≤ c / 4096 := by omega
    have k10 : c / 4096 < 512 := by omega
    have k11 : 0 ≤ c / 4096 % 64 := by omega
    have k12 : c / 4096 % 64 < 64 := by omega
    go_enter Tryz.func145, Tryz.ntmps145
    go_wp2
    go_ret
    exact ⟨rfl, rfl⟩
end Go.Proofs.YtjjpdoabagnmoaaGreatDoor

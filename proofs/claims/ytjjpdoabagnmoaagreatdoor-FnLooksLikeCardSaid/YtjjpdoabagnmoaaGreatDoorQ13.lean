/-
  Texts of this claim in one file, in build order: ReadL, Atoi, ReadP, ReadV, ReadI. Each says ahead what it proves and under which conditions.
-/
import Derived.Test.YtjjpdoabagnmoaaGreatDoorQ11
import Derived.Test.YtjjpdoabagnmoaaGreatDoorQ01
import Derived.Test.YtjjpdoabagnmoaaGreatDoorShelf
import Derived.Lib.AtoiAllCases
import Derived.Lib.SmallJoins
import Derived.Lib.IndexAny
import Derived.Lib.CutLaws
import Derived.Lib.SlTrimSet
import Derived.Shelf.Strings.SlTrimAscii
import Derived.Test.YtjjpdoabagnmoaaGreatDoorQ05
import Derived.Test.YtjjpdoabagnmoaaGreatDoorQ06
import Derived.Test.YtjjpdoabagnmoaaGreatDoorQ03
import Derived.Shelf.Strings.IndexAnyAll
/-
  Plain facts on reading a number's text: what its parts are worth. No program here. No condition.
-/
namespace Go.Proofs.YtjjpdoabagnmoaaGreatDoor
open Go.RowKit

/-- the digits and the power of ten out of the body, one byte after the other -/
def readA : List UInt8 → Bool → List UInt8 → Int → List UInt8 × Int × List UInt8
  | [], _, d, x => (d, x, [])
  | c :: l, p, d, x => if c = 101 ∨ c = 69 then (d, x, c :: l) else if c = 46 then readA l true d x else readA l p (d ++ [c]) (if p then x - 1 else x)
theorem readA_nil (p : Bool) (d : List UInt8) (x : Int) : readA [] p d x = (d, x, []) := rfl
theorem readA_e {c : UInt8} (h : c = 101 ∨ c = 69) (l : List UInt8) (p : Bool) (d : List UInt8) (x : Int) : readA (c :: l) p d x = (d, x, c :: l) := by rw [readA, if_pos h]
theorem readA_dot (l : List UInt8) (p : Bool) (d : List UInt8) (x : Int) : readA (46 :: l) p d x = readA l true d x := by
  rw [readA, if_neg (by decide), if_pos rfl]
theorem readA_dig {c : UInt8} (h : ¬ (c = 101 ∨ c = 69)) (h2 : ¬ c = 46) (l : List UInt8) (p : Bool) (d : List UInt8) (x : Int) : readA (c :: l) p d x = readA l p (d ++ [c]) (if p then x - 1 else x) := by
  rw [readA, if_neg h, if_neg h2]
theorem dig_not {c : UInt8} (h : isDig c = true) : ¬ (c = 101 ∨ c = 69) ∧ ¬ c = 46 := by
  have := (isDig_iff c).1 h
  refine ⟨?_, ?_⟩
  · rintro (rfl | rfl) <;> exact absurd h (by decide)
  · rintro rfl; exact absurd h (by decide)
theorem readA_digs : ∀ (m l d : List UInt8) (p : Bool) (x : Int), m.all isDig = true → readA (m ++ l) p d x = readA l p (d ++ m) (if p then x - (m.length : Int) else x)
  | [], l, d, p, x, _ => by cases p <;> simp
  | c :: m, l, d, p, x, h => by
    rw [List.all_cons, Bool.and_eq_true] at h
    rw [List.cons_append, readA_dig (dig_not h.1).1 (dig_not h.1).2, readA_digs m l _ p _ h.2, List.append_assoc]
    cases p
    · rfl
    · simp only [if_pos, List.length_cons, List.singleton_append]
      congr 1; omega
theorem ex_head {ex sg d : List UInt8} (h : IsEx ex sg d) (p : Bool) (t : List UInt8) (x : Int) : readA ex p t x = (t, x, ex) := by
  rcases h with ⟨rfl, -⟩ | ⟨c, hc, rfl, -⟩
  · rfl
  · exact readA_e hc _ _ _ _
/-- what the body's loop ends with -/
theorem readA_body {b d1 d2 ex sg d : List UInt8} (hb : IsBody b d1 d2) (he : IsEx ex sg d) : readA (b ++ ex) false [] 0 = (d1 ++ d2, -(d2.length : Int), ex) := by
  rcases hb with ⟨rfl, rfl, h1, -⟩ | ⟨rfl, h1, h2, -⟩
  · rw [readA_digs _ _ _ _ _ h1, ex_head he]; simp
  · rw [List.append_assoc, readA_digs _ _ _ _ _ h1, List.cons_append, readA_dot, readA_digs _ _ _ _ _ h2, ex_head he]
    simp
/-- the exponent's sign and size, one byte after the other -/
def readB : List UInt8 → Bool → Nat → Bool × Nat
  | [], m, n => (m, n)
  | c :: l, m, n => readB l (m || decide (c = 45)) (if isDig c = true ∧ n < 10000 then 10 * n + (c.toNat - 48) else n)
theorem readB_nil (m : Bool) (n : Nat) : readB [] m n = (m, n) := rfl
theorem readB_cons (c : UInt8) (l : List UInt8) (m : Bool) (n : Nat) : readB (c :: l) m n = readB l (m || decide (c = 45)) (if isDig c = true ∧ n < 10000 then 10 * n + (c.toNat - 48) else n) := rfl
theorem readB_nodig {c : UInt8} (h : isDig c = false) (l : List UInt8) (m : Bool) (n : Nat) : readB (c :: l) m n = readB l (m || decide (c = 45)) n := by
  rw [readB_cons, if_neg (by rintro ⟨e, -⟩; rw [h] at e; exact absurd e (by decide))]
theorem readB_digs : ∀ (l : List UInt8) (m : Bool) (n : Nat), l.all isDig = true → (readB l m n).1 = m ∧ (n < 10000 ∨ 10000 ≤ n) ∧ min 9999 (readB l m n).2 = min 9999 (l.foldl (fun a c => 10 * a + (c.toNat - 48)) n)
  | [], m, n, _ => ⟨rfl, by omega, rfl⟩
  | c :: l, m, n, h => by
    rw [List.all_cons, Bool.and_eq_true] at h
    have hc : decide (c = 45) = false := by
      rw [decide_eq_false_iff_not]; rintro rfl; exact absurd h.1 (by decide)
    rw [readB_cons, hc, Bool.or_false, List.foldl_cons]
    by_cases hn : n < 10000
    · rw [if_pos ⟨h.1, hn⟩]
      obtain ⟨h1, -, h3⟩ := readB_digs l m (10 * n + (c.toNat - 48)) h.2
      exact ⟨h1, by omega, h3⟩
    · rw [if_neg (fun e => hn e.2)]
      obtain ⟨h1, -, h3⟩ := readB_digs l m n h.2
      refine ⟨h1, by omega, ?_⟩
      rw [h3]
      have e1 := val_fold l n
      have e2 := val_fold l (10 * n + (c.toNat - 48))
      rw [e1, e2]
      have hp : 1 ≤ 10 ^ l.length := Nat.one_le_pow _ _ (by decide)
      have a1 : n * 1 ≤ n * 10 ^ l.length := Nat.mul_le_mul_left _ hp
      have a2 : (10 * n + (c.toNat - 48)) * 1 ≤ (10 * n + (c.toNat - 48)) * 10 ^ l.length := Nat.mul_le_mul_left _ hp
      omega
/-- the exponent that is told -/
def exV (sg d : List UInt8) : Int := if sg = [45] then -((min 9999 (val d) : Nat) : Int) else ((min 9999 (val d) : Nat) : Int)
theorem exV_bound (sg d : List UInt8) : -9999 ≤ exV sg d ∧ exV sg d ≤ 9999 := by
  have : min 9999 (val d) ≤ 9999 := Nat.min_le_left _ _
  unfold exV
  split <;> omega
theorem readB_ex {sg d : List UInt8} (hs : IsSg sg) (hd : d.all isDig = true) : exV sg d = (if (readB (sg ++ d) false 0).1 then -((min 9999 (readB (sg ++ d) false 0).2 : Nat) : Int) else ((min 9999 (readB (sg ++ d) false 0).2 : Nat) : Int)) := by
  rcases hs with rfl | rfl | rfl
  · obtain ⟨h1, -, h3⟩ := readB_digs d false 0 hd
    rw [List.nil_append, h1, h3]; rfl
  · rw [List.cons_append, List.nil_append, readB_nodig (by decide)]
    obtain ⟨h1, -, h3⟩ := readB_digs d false 0 hd
    rw [show (false || decide ((43 : UInt8) = 45)) = false from rfl, h1, h3]; rfl
  · rw [List.cons_append, List.nil_append, readB_nodig (by decide)]
    obtain ⟨h1, -, h3⟩ := readB_digs d true 0 hd
    rw [show (false || decide ((45 : UInt8) = 45)) = true from rfl, h1, h3]; rfl
theorem readB_small : ∀ (l : List UInt8) (m : Bool) (n : Nat), n ≤ 100100 → (readB l m n).2 ≤ 100100
  | [], _, _, h => h
  | c :: l, m, n, h => by
    rw [readB_cons]
    apply readB_small
    split
    · rename_i e
      have := (isDig_iff c).1 e.1
      omega
    · exact h
/-- the body's digits -/
theorem body_digs {b d1 d2 : List UInt8} (h : IsBody b d1 d2) : (d1 ++ d2).all isDig = true ∧ d1 ++ d2 ≠ [] ∧ (d1 ++ d2).length ≤ b.length := by
  rcases h with ⟨rfl, rfl, h1, h2⟩ | ⟨rfl, h1, h2, h3⟩
  · rw [List.append_nil]; exact ⟨h1, h2, Nat.le_refl _⟩
  · refine ⟨by rw [List.all_append, h1, h2]; rfl, h3, by simp⟩
/-- what ahead of a body stands -/
theorem body_head {b d1 d2 : List UInt8} (h : IsBody b d1 d2) : ∃ c r, b = c :: r ∧ (isDig c = true ∨ c = 46) := by
  rcases h with ⟨rfl, rfl, h1, h2⟩ | ⟨rfl, h1, h2, h3⟩
  · cases b with
    | nil => exact absurd rfl h2
    | cons c r => rw [List.all_cons, Bool.and_eq_true] at h1; exact ⟨c, r, rfl, .inl h1.1⟩
  · cases d1 with
    | nil => exact ⟨46, d2, rfl, .inr rfl⟩
    | cons c r => rw [List.all_cons, Bool.and_eq_true] at h1; exact ⟨c, r ++ 46 :: d2, rfl, .inl h1.1⟩
theorem body_all {b d1 d2 : List UInt8} (h : IsBody b d1 d2) : ∀ c ∈ b, isDig c = true ∨ c = 46 := by
  rcases h with ⟨rfl, rfl, h1, h2⟩ | ⟨rfl, h1, h2, h3⟩
  · intro c hc; exact .inl (List.all_eq_true.1 h1 c hc)
  · intro c hc
    rcases List.mem_append.1 hc with hc | hc
    · exact .inl (List.all_eq_true.1 h1 c hc)
    · rcases List.mem_cons.1 hc with hc | hc
      · exact .inr hc
      · exact .inl (List.all_eq_true.1 h2 c hc)
end Go.Proofs.YtjjpdoabagnmoaaGreatDoor
/-
  What strconv.Atoi reads out of a natural's digits. Condition: the natural is no more than ten to the eighteen.
-/
namespace Go.Proofs.YtjjpdoabagnmoaaGreatDoor
open Go.RowKit
set_option linter.unusedVariables false
set_option linter.unusedSimpArgs false

theorem parse_val : ∀ (l : List UInt8) (acc : Nat), l.all isDig = true → acc * 10 ^ l.length + val l ≤ 1000000000000000000 → Lib.parseUint10 acc l = .ok (acc * 10 ^ l.length + val l)
  | [], acc, _, _ => by simp [Lib.parseUint10, val_nil]
  | c :: r, acc, ha, h => by
    rw [List.all_cons, Bool.and_eq_true] at ha
    have hc := isDig_le ha.1
    have hp : 0 < 10 ^ r.length := Nat.pow_pos (by decide)
    have e : acc * 10 ^ (c :: r).length + val (c :: r) = (acc * 10 + (c.toNat - 48)) * 10 ^ r.length + val r := by
      rw [val_cons, List.length_cons, Nat.pow_succ, Nat.add_mul, Nat.mul_assoc acc 10, Nat.mul_comm 10 (10 ^ r.length)]; omega
    rw [e] at h ⊢
    have h2 : acc * 10 + (c.toNat - 48) ≤ (acc * 10 + (c.toNat - 48)) * 10 ^ r.length := Nat.le_mul_of_pos_right _ hp
    unfold Lib.parseUint10
    rw [if_pos hc, if_neg (by omega), if_neg (by omega)]
    exact parse_val r _ ha.2 h
theorem atoi_dec (V : Nat) (h : V ≤ 1000000000000000000) : Lib.atoiAll (dec V) = .ok (V : Int) := by
  have hd := dec_all V
  have hv := val_dec V
  cases e : dec V with
  | nil => exact absurd e (dec_ne V)
  | cons c r =>
    rw [e] at hd hv
    have hp := parse_val (c :: r) 0 hd (by rw [hv]; omega)
    rw [hv, Nat.zero_mul, Nat.zero_add] at hp
    have hc := isDig_le (by rw [List.all_cons, Bool.and_eq_true] at hd; exact hd.1)
    rw [Lib.atoiAll_plain c r (by omega) (by omega)]
    unfold Lib.parseMag
    rw [if_neg (by simp), hp]
    unfold Lib.signless
    simp only
    rw [if_neg (by omega)]

theorem atoi_any (V : Nat) (w : World) (h : V ≤ 1000000000000000000) :
    Calls Tryz.prog 52 #[.string (ofL (dec V))] w fun e w' => e = .returned (.tuple #[.int .i64 (V : Int), .nilIface]) ∧ Below w.heap.size w w' := by
  have hl := dec_len_le 19 V (by decide) (by omega)
  have hs := size_ofL (dec V)
  refine (Tryz.strconv_Atoi_ok (ofL (dec V)) (by omega) (V : Int) (atoi_dec V h) w).mono ?_
  rintro e w' ⟨rfl, rfl | ⟨t, rfl⟩⟩
  · exact ⟨rfl, Below.refl _ _⟩
  · exact ⟨rfl, Go.Joins.below_bytesWorld _ _ _ _ (Nat.le_refl _)⟩
end Go.Proofs.YtjjpdoabagnmoaaGreatDoor
/-
  What the library's TrimLeft, IndexAny and Cut make of a number's text. No condition but the text's parts.
-/
namespace Go.Proofs.YtjjpdoabagnmoaaGreatDoor
open Go.RowKit
set_option linter.unusedVariables false
set_option linter.unusedSimpArgs false

theorem trimLeft_sg {sg r : List UInt8} (h : IsSg sg) (hr : ∀ c t, r = c :: t → c ≠ 43 ∧ c ≠ 45) : Lib.trimLeftS (sg ++ r) [43, 45] = r := by
  have h0 : Lib.trimLeftS r [43, 45] = r := by
    cases r with
    | nil => rfl
    | cons c t =>
      obtain ⟨h1, h2⟩ := hr c t rfl
      unfold Lib.trimLeftS
      rw [List.dropWhile_cons_of_neg (by simp [h1, h2])]
  rcases h with rfl | rfl | rfl
  · exact h0
  · unfold Lib.trimLeftS at h0 ⊢
    rw [List.cons_append, List.nil_append, List.dropWhile_cons_of_pos (by decide)]; exact h0
  · unfold Lib.trimLeftS at h0 ⊢
    rw [List.cons_append, List.nil_append, List.dropWhile_cons_of_pos (by decide)]; exact h0
theorem head_body {b d1 d2 : List UInt8} (h : IsBody b d1 d2) (r : List UInt8) : ∀ c t, b ++ r = c :: t → c ≠ 43 ∧ c ≠ 45 := by
  obtain ⟨c, t, rfl, hc⟩ := body_head h
  intro x y e
  simp only [List.cons_append, List.cons.injEq] at e
  rw [← e.1]
  rcases hc with hc | rfl
  · refine ⟨?_, ?_⟩ <;> (rintro rfl; exact absurd hc (by decide))
  · decide
theorem head_digs {d : List UInt8} (h : d.all isDig = true) : ∀ c t, d = c :: t → c ≠ 43 ∧ c ≠ 45 := by
  rintro c t rfl
  rw [List.all_cons, Bool.and_eq_true] at h
  refine ⟨?_, ?_⟩ <;> (rintro rfl; exact absurd h.1 (by decide))
theorem noAny_body {b d1 d2 : List UInt8} (h : IsBody b d1 d2) (r : List UInt8) : Lib.NoAny (b ++ r) [101, 69] b.length := by
  intro j c hj hc
  rw [List.getElem?_append_left hj] at hc
  have := body_all h c (List.mem_of_getElem? hc)
  rcases this with hd | rfl
  · obtain ⟨h1, h2⟩ := dig_not hd
    simp only [List.contains_cons, List.contains_nil, Bool.or_false, Bool.or_eq_false_iff, beq_eq_false_iff_ne]
    exact ⟨fun e => h1 (.inl e), fun e => h1 (.inr e)⟩
  · rfl
theorem anyE_none {b d1 d2 : List UInt8} (h : IsBody b d1 d2) : Lib.indexAny b [101, 69] = -1 := by
  apply Lib.indexAny_none
  have := noAny_body h []
  rwa [List.append_nil] at this
theorem anyE_at {b d1 d2 r : List UInt8} {c : UInt8} (h : IsBody b d1 d2) (hc : c = 101 ∨ c = 69) : Lib.indexAny (b ++ c :: r) [101, 69] = (b.length : Int) :=
  Lib.indexAny_hit (noAny_body h _) (x := c) (by rw [List.getElem?_append_right (Nat.le_refl _)]; simp) (by rcases hc with rfl | rfl <;> decide)
theorem index_dot : ∀ (d1 d2 : List UInt8), d1.all isDig = true → Lib.index (d1 ++ 46 :: d2) [46] = (d1.length : Int)
  | [], d2, _ => by
    rw [List.nil_append, Lib.index, if_pos (by simp)]; rfl
  | c :: d1, d2, h => by
    rw [List.all_cons, Bool.and_eq_true] at h
    have ih := index_dot d1 d2 h.2
    have hc := (dig_not h.1).2
    rw [List.cons_append, Lib.index, if_neg (by simp; exact fun e => hc e.symm), ih, if_neg (by simp; try omega)]
    simp
theorem index_nodot : ∀ (d : List UInt8), d.all isDig = true → Lib.index d [46] = -1
  | [], _ => rfl
  | c :: d, h => by
    rw [List.all_cons, Bool.and_eq_true] at h
    have ih := index_nodot d h.2
    have hc := (dig_not h.1).2
    rw [Lib.index, if_neg (by simp; exact fun e => hc e.symm), ih, if_pos (by decide)]
theorem cut_body {b d1 d2 : List UInt8} (h : IsBody b d1 d2) : (Lib.cut b [46]).1 = d1 ∧ (Lib.cut b [46]).2.1 = d2 := by
  rcases h with ⟨rfl, rfl, h1, h2⟩ | ⟨rfl, h1, h2, h3⟩
  · unfold Lib.cut
    rw [index_nodot _ h1, if_neg (by decide)]
    exact ⟨rfl, rfl⟩
  · unfold Lib.cut
    rw [index_dot _ _ h1, if_pos (by omega), Int.toNat_natCast]
    refine ⟨by simp, ?_⟩
    simp only [List.length_cons, List.length_nil]
    rw [List.drop_append]
    simp
theorem dig_ascii {c : UInt8} (h : isDig c = true) : c.toNat < 128 := by
  have := (isDig_iff c).1 h; omega
/-- every byte of a number's text is ASCII -/
theorem ascii_body {b d1 d2 : List UInt8} (h : IsBody b d1 d2) : ∀ c ∈ b, c.toNat < 128 := by
  intro c hc
  rcases body_all h c hc with hd | rfl
  · exact dig_ascii hd
  · decide
theorem ascii_ex {ex sg d : List UInt8} (h : IsEx ex sg d) : ∀ c ∈ ex, c.toNat < 128 := by
  rcases h with ⟨rfl, -⟩ | ⟨e, he, rfl, hs, hd, -⟩
  · intro c hc; simp at hc
  · intro c hc
    rcases List.mem_cons.1 hc with rfl | hc
    · rcases he with rfl | rfl <;> decide
    · rcases List.mem_append.1 hc with hc | hc
      · rcases hs with rfl | rfl | rfl
        · simp at hc
        · simp at hc; rw [hc]; decide
        · simp at hc; rw [hc]; decide
      · exact dig_ascii (List.all_eq_true.1 hd c hc)
theorem ascii_both {b d1 d2 ex sg d : List UInt8} (hb : IsBody b d1 d2) (he : IsEx ex sg d) : ∀ (j : Nat) c, (b ++ ex)[j]? = some c → c.toNat < 128 := by
  intro j c h
  rcases List.mem_append.1 (List.mem_of_getElem? h) with h | h
  · exact ascii_body hb c h
  · exact ascii_ex he c h
end Go.Proofs.YtjjpdoabagnmoaaGreatDoor
/-
  What a number's text is worth, and small facts on its bytes. No condition but the text's parts.
-/
namespace Go.Proofs.YtjjpdoabagnmoaaGreatDoor
open Go.RowKit
set_option linter.unusedVariables false
set_option linter.unusedSimpArgs false

/-- the number that a text's parts tell, and the code -/
def readV (sg d1 d2 sg2 d3 : List UInt8) : Value := formV (decide (sg = [45])) (val (d1 ++ d2)) (exV sg2 d3 - (d2.length : Int))
theorem bs_one' (s : ByteArray) (k : Nat) (h : k < s.size) : bs (s.extract k (k + 1)) = [s[k]] := by
  have e : bs (s.extract k (k + 1)) = ((bs s).take (k + 1)).drop k := by
    show (s.extract k (k + 1)).data.toList = _
    rw [ByteArray.data_extract, Array.toList_extract]
    simp only [List.extract_eq_take_drop]
    rw [List.drop_take]
  rw [e, List.drop_take, bs_drop s k h]
  simp
theorem byte_sub (c : UInt8) (h : isDig c = true) : IntKind.u8.wrap ((c.toNat : Int) - 48) = ((c.toNat - 48 : Nat) : Int) := by
  have := (isDig_iff c).1 h
  rw [IntWalk.u8_in _ (by omega)]
  omega
theorem l03Digit_at (x : Int) (c : UInt8) (b : Bool) (w : World) (hx : x = (c.toNat : Int)) (h : isDig c = b) :
    Calls Tryz.prog 58 #[.int .u8 x] w fun e w' => e = .returned (.bool b) ∧ w' = w := by
  subst hx h; exact l03Digit_any c w
/-- what the first byte tells of the sign -/
theorem first_byte {s : ByteArray} {sg b d1 d2 ex : List UInt8} (hl : bs s = sg ++ (b ++ ex)) (h1 : IsSg sg) (h2 : IsBody b d1 d2) :
    ∃ h : 0 < s.size, (sg = [] ∧ ((s[0].toNat : Int) == 43) = false ∧ ((s[0].toNat : Int) == 45) = false) ∨ (sg = [43] ∧ (s[0].toNat : Int) = 43) ∨ (sg = [45] ∧ (s[0].toNat : Int) = 45) := by
  obtain ⟨c, r, hb, hc⟩ := body_head h2
  have h0 : 0 < s.size := by rw [← bs_length, hl, hb]; simp; omega
  have e := bs_drop s 0 h0
  rw [List.drop_zero, hl] at e
  refine ⟨h0, ?_⟩
  rcases h1 with rfl | rfl | rfl
  · left
    rw [hb] at e
    simp only [List.nil_append, List.cons_append, List.cons.injEq] at e
    rw [← e.1]
    refine ⟨rfl, ?_, ?_⟩
    all_goals
      rw [beq_eq_false_iff_ne]
      rcases hc with hc | rfl
      · have := (isDig_iff c).1 hc; omega
      · decide
  · right; left
    simp only [List.nil_append, List.cons_append, List.cons.injEq] at e
    exact ⟨rfl, by rw [← e.1]; rfl⟩
  · right; right
    simp only [List.nil_append, List.cons_append, List.cons.injEq] at e
    exact ⟨rfl, by rw [← e.1]; rfl⟩

end Go.Proofs.YtjjpdoabagnmoaaGreatDoor
/-
  The contract of impl.decRead: the number that a text tells. Conditions: the text has a number's parts, and is no longer than 2 to the 20; the library's variable MaxLen holds an int.
-/
namespace Go.Proofs.YtjjpdoabagnmoaaGreatDoor
open Go.RowKit
set_option linter.unusedVariables false
set_option linter.unusedSimpArgs false

/-- the library's variable MaxLen holds an int -/
def MaxCell (w : World) : Prop := ∃ m : Int, w.cell? ⟨0, 0, none⟩ = some (.int .i64 m)
theorem MaxCell.below {w w' : World} (h : MaxCell w) (hb : Below w.heap.size w w') : MaxCell w' := by
  obtain ⟨m, hm⟩ := h
  obtain ⟨c, -⟩ := bcell hb
  exact ⟨m, by rw [c _ _ (Lib.lt_of_cell hm)]; exact hm⟩
theorem max_of {w : World} (h : w.ShapedOpen Tryz.prog) : MaxCell w := Tryz.laysM145.s1_3 w h
theorem trimLeft_to (t T : ByteArray) (l : List UInt8) (w : World) (ht : bs t = l) (hr : Lib.trimLeftS l [43, 45] = bs T) :
    Calls Tryz.prog 34 #[.string t, .string ⟨#[43, 45]⟩] w fun e w' => e = .returned (.string T) ∧ Below w.heap.size w w' := by
  subst ht
  refine (Any.strings_TrimLeft_laid Tryz.lays161 (by kernel_rfl) t ⟨#[43, 45]⟩ w (by decide) (ascii_of_all (by decide))).mono ?_
  rintro e w' ⟨rfl, hb⟩
  refine ⟨?_, hb⟩
  show Ending.returned (Value.string (ofL (Lib.trimLeftS (bs t) [43, 45]))) = _
  rw [hr, ofL_bs]
theorem indexAny_to (t : ByteArray) (l : List UInt8) (k : Int) (w : World) (ht : bs t = l) (hs : t.size < 4294967281) (ha : ∀ (j : Nat) c, l[j]? = some c → c.toNat < 128) (hk : Lib.indexAny l [101, 69] = k) :
    Calls Tryz.prog 74 #[.string t, .string ⟨#[101, 69]⟩] w fun e w' => e = .returned (.int .i64 k) ∧ Below w.heap.size w w' := by
  subst ht hk
  exact Any.strings_IndexAny_laid Tryz.lays153 (by kernel_rfl) t ⟨#[101, 69]⟩ w hs (by decide) ha (ascii_of_all (by decide))
theorem cut_to (t : ByteArray) (l d1 d2 : List UInt8) (w : World) (hM : MaxCell w) (ht : bs t = l) (hs : t.size < 4294967281) (h1 : (Lib.cut l [46]).1 = d1) (h2 : (Lib.cut l [46]).2.1 = d2) :
    Calls Tryz.prog 76 #[.string t, .string ⟨#[46]⟩] w fun e w' => ∃ f : Bool, e = .returned (.tuple #[.string (ofL d1), .string (ofL d2), .bool f]) ∧ Below w.heap.size w w' := by
  obtain ⟨m, hm⟩ := hM
  subst ht h1 h2
  refine (Tryz.strings_Cut t ⟨#[46]⟩ m w hs hm).mono ?_
  rintro e w' ⟨rfl, n, rfl⟩
  exact ⟨_, rfl, Go.below_drewN (Below.refl _ _) n⟩
theorem trimNat_to (t : ByteArray) (l : List UInt8) (w : World) (ht : bs t = l) (hl : l.all isDig = true) :
    Calls Tryz.prog 75 #[.string t] w fun e w' => e = .returned (.string (ofL (dec (val l)))) ∧ Below w.heap.size w w' := by
  subst ht
  refine (trimNat_any t w).mono ?_
  rintro e w' ⟨rfl, rfl⟩
  exact ⟨by rw [trimZ_dec _ hl], Below.refl _ _⟩
theorem atoi_to (t : ByteArray) (V : Nat) (w : World) (ht : t = ofL (dec V)) (h : V ≤ 1000000000000000000) :
    Calls Tryz.prog 52 #[.string t] w fun e w' => e = .returned (.tuple #[.int .i64 (V : Int), .nilIface]) ∧ Below w.heap.size w w' := by
  subst ht
  exact atoi_any V w h
theorem head_neg {s : ByteArray} {sg b d1 d2 ex : List UInt8} (hl : bs s = sg ++ (b ++ ex)) (h1 : IsSg sg) (h2 : IsBody b d1 d2) : ∃ h : 0 < s.size, ((s[0].toNat : Int) == 45) = decide (sg = [45]) := by
  obtain ⟨h0, h⟩ := first_byte hl h1 h2
  refine ⟨h0, ?_⟩
  rcases h with ⟨rfl, -, h⟩ | ⟨rfl, h⟩ | ⟨rfl, h⟩
  · rw [h]; rfl
  · rw [h]; rfl
  · rw [h]; rfl

set_option maxRecDepth 10000 in
set_option maxHeartbeats 400000 in
theorem decRead_plain (s : ByteArray) (sg b d1 d2 : List UInt8) (sg2 d3 : List UInt8) (hev : exV sg2 d3 = 0) (w : World) (hM : MaxCell w) (hs : s.size ≤ 1048576) (hl : bs s = sg ++ (b ++ [])) (h1 : IsSg sg) (h2 : IsBody b d1 d2) :
    Calls Tryz.prog 44 #[.string s] w fun e w' => e = .returned (readV sg d1 d2 sg2 d3) ∧ Below w.heap.size w w' := by
  obtain ⟨n', u, y', c, hV, -, -, -⟩ := formV_lit (decide (sg = [45])) (val (d1 ++ d2)) (exV sg2 d3 - (d2.length : Int))
  obtain ⟨h0, hneg⟩ := head_neg hl h1 h2
  have hlen := congrArg List.length hl
  rw [bs_length, List.length_append, List.length_append] at hlen
  obtain ⟨hda, hdn, hdl⟩ := body_digs h2
  have hdl2 := hdl
  rw [List.length_append] at hdl2
  have hd2b : d2.length ≤ 1048576 := by omega
  have hex := exV_bound sg2 d3
  obtain ⟨neg, hng⟩ : ∃ neg, decide (sg = [45]) = neg := ⟨_, rfl⟩
  rw [hng] at hneg hV
  have hN := Lib.hid (fun (w : World) (t : ByteArray) (x : Int) (ht : bs t = d1 ++ d2) (hx : x = exV sg2 d3 - (d2.length : Int)) => by
    have hts : t.size ≤ 1073741824 := by rw [← bs_length, ht]; omega
    have := normal_any neg t x w (by rw [ht]; exact hda) hts (by omega) (by omega)
    rw [ht, hx, hV, ← hx] at this
    exact this : ∀ (w : World) (t : ByteArray) (x : Int), bs t = d1 ++ d2 → x = exV sg2 d3 - (d2.length : Int) → Calls Tryz.prog 47 #[.bool neg, .string t, .int .i64 x] w fun e w' => e = .returned (.tuple #[.agg #[.bool n', .string u, .int .i64 y'], .int .i64 c]) ∧ Below w.heap.size w w')
  have s1 := size_ofL d1
  have s2 := size_ofL d2
  have hno : ¬ (9223372036854775807 < d1.length + d2.length) := by omega
  have HT := Lib.hid (show bs (ofL d1 ++ ofL d2) = d1 ++ d2 by rw [bs_app, bs_ofL, bs_ofL])
  unfold readV
  rw [hng, hV]
  clear hng
  rw [List.append_nil] at hl
  have HL := Lib.hid hl
  have HTL := Lib.hid (trimLeft_sg (r := b) h1 (by have := head_body h2 []; rwa [List.append_nil] at this))
  have HB := Lib.hid (bs_ofL b)
  have hbs := size_ofL b
  have HBS := Lib.hid (show (ofL b).size < 4294967281 by omega)
  have HIA := Lib.hid (anyE_none h2)
  have HAS := Lib.hid (fun (j : Nat) (c : UInt8) (h : b[j]? = some c) => ascii_body h2 c (List.mem_of_getElem? h))
  have HC := Lib.hid (cut_body h2)
  have HEV := Lib.hid hev
  clear hV hl hda hdn h1 h2 hbs hev hlen
  go_enter Tryz.func44, Tryz.ntmps44
  go_wp2_with fail
  obtain ⟨w0, hw0, hz0, hv0, hc0, hf0⟩ := one_laid w false ⟨#[]⟩ 0
  rw [hw0]
  have hm0 : MaxCell w0 := hM.below hv0
  clear hw0
  refine (trimLeft_to s (ofL b) _ _ HL.out HTL.out).mono ?_
  rintro e w1 ⟨rfl, hb1⟩
  obtain ⟨hz1, hc1, hf1⟩ := one_kept hb1 hz0 hc0 hf0
  have hv1 := hv0.trans (hb1.mono hv0.size)
  have hm1 := MaxCell.below hm0 hb1
  clear hb1 hz0 hc0 hf0 hv0 hm0
  go_wp2_with fail
  refine (indexAny_to _ b (-1) _ HB.out HBS.out HAS.out HIA.out).mono ?_
  rintro e w2 ⟨rfl, hb2⟩
  obtain ⟨hz2, hc2, hf2⟩ := one_kept hb2 hz1 hc1 hf1
  have hv2 := hv1.trans (hb2.mono hv1.size)
  have hm2 := MaxCell.below hm1 hb2
  clear hb2 hz1 hc1 hf1 hv1 hm1
  go_wp2_with fail
  refine (cut_to _ b d1 d2 _ (by assumption) (by first | exact HB.out | rfl) (by first | exact HBS.out | (rw [size_ofL]; omega)) HC.out.1 HC.out.2).mono ?_
  rintro e w3 ⟨f, rfl, hb3⟩
  obtain ⟨hz3, hc3, hf3⟩ := one_kept hb3 hz2 hc2 hf2
  have hv3 := hv2.trans (hb3.mono hv2.size)
  have hm3 := MaxCell.below hm2 hb3
  clear hb3 hz2 hc2 hf2 hv2 hm2
  go_wp2_with fail
  refine (hN.out _ _ _ HT.out (by have := HEV.out; omega)).mono ?_
  rintro e w4 ⟨rfl, hb4⟩
  obtain ⟨hz4, hc4, hf4⟩ := one_kept hb4 hz3 hc3 hf3
  have hv4 := hv3.trans (hb4.mono hv3.size)
  have hm4 := MaxCell.below hm3 hb4
  clear hb4 hz3 hc3 hf3 hv3 hm3
  go_wp2
  refine bodyPost_ret (v := .tuple #[.agg #[.bool n', .string u, .int .i64 y'], .int .i64 c]) (by simp [results, Tryz.results44, go_sem, *]) rfl ⟨rfl, ?_⟩
  exact set_three hv4 (Nat.le_refl w.heap.size) _ _ _

set_option maxRecDepth 10000 in
set_option maxHeartbeats 400000 in
theorem decRead_ps (s : ByteArray) (sg b d1 d2 sg2 d3 : List UInt8) (ce : UInt8) (w : World) (hM : MaxCell w) (hs : s.size ≤ 1048576) (hl : bs s = sg ++ (b ++ (ce :: (sg2 ++ d3)))) (h1 : IsSg sg) (h2 : IsBody b d1 d2) (hce : ce = 101 ∨ ce = 69) (hs2 : IsSg sg2) (hd3 : d3.all isDig = true) (hd3n : d3 ≠ []) (hmi : decide (sg2 = [45]) = false) (hsh : val d3 ≤ 9999) :
    Calls Tryz.prog 44 #[.string s] w fun e w' => e = .returned (readV sg d1 d2 sg2 d3) ∧ Below w.heap.size w w' := by
  obtain ⟨n', u, y', c, hV, -, -, -⟩ := formV_lit (decide (sg = [45])) (val (d1 ++ d2)) (exV sg2 d3 - (d2.length : Int))
  obtain ⟨h0, hneg⟩ := head_neg hl h1 h2
  have hlen := congrArg List.length hl
  rw [bs_length, List.length_append, List.length_append] at hlen
  obtain ⟨hda, hdn, hdl⟩ := body_digs h2
  have hdl2 := hdl
  rw [List.length_append] at hdl2
  have hd2b : d2.length ≤ 1048576 := by omega
  have hex := exV_bound sg2 d3
  obtain ⟨neg, hng⟩ : ∃ neg, decide (sg = [45]) = neg := ⟨_, rfl⟩
  rw [hng] at hneg hV
  have hN := Lib.hid (fun (w : World) (t : ByteArray) (x : Int) (ht : bs t = d1 ++ d2) (hx : x = exV sg2 d3 - (d2.length : Int)) => by
    have hts : t.size ≤ 1073741824 := by rw [← bs_length, ht]; omega
    have := normal_any neg t x w (by rw [ht]; exact hda) hts (by omega) (by omega)
    rw [ht, hx, hV, ← hx] at this
    exact this : ∀ (w : World) (t : ByteArray) (x : Int), bs t = d1 ++ d2 → x = exV sg2 d3 - (d2.length : Int) → Calls Tryz.prog 47 #[.bool neg, .string t, .int .i64 x] w fun e w' => e = .returned (.tuple #[.agg #[.bool n', .string u, .int .i64 y'], .int .i64 c]) ∧ Below w.heap.size w w')
  have s1 := size_ofL d1
  have s2 := size_ofL d2
  have hno : ¬ (9223372036854775807 < d1.length + d2.length) := by omega
  have HT := Lib.hid (show bs (ofL d1 ++ ofL d2) = d1 ++ d2 by rw [bs_app, bs_ofL, bs_ofL])
  unfold readV
  rw [hng, hV]
  clear hng
  have HL := Lib.hid hl
  have HTL := Lib.hid (trimLeft_sg h1 (head_body h2 (ce :: (sg2 ++ d3))))
  have hbl : (ofL (b ++ (ce :: (sg2 ++ d3)))).size = b.length + 1 + (sg2 ++ d3).length := by rw [size_ofL, List.length_append, List.length_cons]; omega
  obtain ⟨U, hU⟩ : ∃ U, ofL (b ++ (ce :: (sg2 ++ d3))) = U := ⟨_, rfl⟩
  have hUb : bs U = b ++ (ce :: (sg2 ++ d3)) := by rw [← hU, bs_ofL]
  obtain ⟨B, hB⟩ : ∃ B, b.length = B := ⟨_, rfl⟩
  have hBU : B + 1 ≤ U.size := by rw [← hU, hbl]; omega
  have hBU2 : (B : Int) + 1 ≤ (U.size : Int) := by omega
  have hBU3 : (B : Int) ≤ (U.size : Int) := by omega
  have hUs : U.size ≤ 1048576 := by rw [← hU, hbl]; rw [List.length_cons] at hlen; omega
  have HUS := Lib.hid (show U.size < 4294967281 by omega)
  have HUB := Lib.hid hUb
  have HIA := Lib.hid (show Lib.indexAny (b ++ (ce :: (sg2 ++ d3))) [101, 69] = (B : Int) by rw [anyE_at h2 hce, hB])
  have HAS := Lib.hid (ascii_both h2 (.inr ⟨ce, hce, rfl, hs2, hd3, hd3n⟩))
  have hVb : bs (U.extract (B + 1) U.size) = sg2 ++ d3 := by rw [bs_ext, hUb, ← hB, ← List.drop_drop, List.drop_left]; rfl
  obtain ⟨V, hVV⟩ : ∃ V, U.extract (B + 1) U.size = V := ⟨_, rfl⟩
  rw [hVV] at hVb
  have HVB := Lib.hid hVb
  have HTL2 := Lib.hid (trimLeft_sg hs2 (head_digs hd3))
  have HD3 := Lib.hid (bs_ofL d3)
  have HDA := Lib.hid hd3
  have hdl3 := dec_len (val d3)
  have hd4 := size_ofL (dec (val d3))
  have hfr : bs (U.extract 0 B) = b := by rw [bs_front, hUb, ← hB, List.take_left]
  have HB := Lib.hid hfr
  have HBS := Lib.hid (show (U.extract 0 B).size < 4294967281 by rw [← bs_length, hfr]; omega)
  have HC := Lib.hid (cut_body h2)
  have hV0 : 0 < V.size := by
    rw [← bs_length, hVb, List.length_append]
    have := List.length_pos_iff.2 hd3n
    omega
  have hm45 : ((V[0].toNat : Int) == 45) = false := by
    have e := bs_drop V 0 hV0
    rw [List.drop_zero, hVb] at e
    have hx : decide (V[0] = 45) = false := by
      rw [← hmi]
      rcases hs2 with rfl | rfl | rfl
      · cases d3 with
        | nil => exact absurd rfl hd3n
        | cons c t =>
          simp only [List.nil_append, List.cons.injEq] at e
          rw [← e.1]
          have := (head_digs hd3 c t rfl).2
          simp [this]
      · simp only [List.cons_append, List.nil_append, List.cons.injEq] at e
        rw [← e.1]; rfl
      · simp only [List.cons_append, List.nil_append, List.cons.injEq] at e
        rw [← e.1]; rfl
    rw [← hx]
    rw [Bool.eq_iff_iff, beq_iff_eq, decide_eq_true_iff]
    exact ⟨fun h => u8_eq (d := 45) h, fun h => by rw [h]; rfl⟩
  have hlen4 : (dec (val d3)).length ≤ 4 := by
    exact dec_len_le 4 _ (by decide) (by omega)
  have hev : exV sg2 d3 = ((val d3 : Nat) : Int) := by
    unfold exV
    rw [show (if sg2 = [45] then -((min 9999 (val d3) : Nat) : Int) else ((min 9999 (val d3) : Nat) : Int)) = if decide (sg2 = [45]) = true then -((min 9999 (val d3) : Nat) : Int) else ((min 9999 (val d3) : Nat) : Int) by simp, hmi]
    simp only [if_true, if_false, Bool.false_eq_true]
    omega
  have HTL := Lib.hid (show Lib.trimLeftS (sg ++ (b ++ (ce :: (sg2 ++ d3)))) [43, 45] = bs U by rw [hUb]; exact HTL.out)
  have HUO := Lib.hid (show ofL (bs U) = U from ofL_bs U)
  clear hV hl hda hdn h1 h2 hU hUb hVb hfr hs2 hd3 hd3n hmi hB hbl hlen
  have HEV := Lib.hid hev
  clear hev
  go_enter Tryz.func44, Tryz.ntmps44
  go_wp2_with fail
  obtain ⟨w0, hw0, hz0, hv0, hc0, hf0⟩ := one_laid w false ⟨#[]⟩ 0
  rw [hw0]
  have hm0 : MaxCell w0 := hM.below hv0
  clear hw0
  refine (trimLeft_to s U _ _ HL.out HTL.out).mono ?_
  rintro e w1 ⟨rfl, hb1⟩
  obtain ⟨hz1, hc1, hf1⟩ := one_kept hb1 hz0 hc0 hf0
  have hv1 := hv0.trans (hb1.mono hv0.size)
  have hm1 := MaxCell.below hm0 hb1
  clear hb1 hz0 hc0 hf0 hv0 hm0
  go_wp2_with fail
  refine (indexAny_to _ _ (B : Int) _ HUB.out HUS.out HAS.out HIA.out).mono ?_
  rintro e w2 ⟨rfl, hb2⟩
  obtain ⟨hz2, hc2, hf2⟩ := one_kept hb2 hz1 hc1 hf1
  have hv2 := hv1.trans (hb2.mono hv1.size)
  have hm2 := MaxCell.below hm1 hb2
  clear hb2 hz1 hc1 hf1 hv1 hm1
  go_wp2_with fail
  refine (trimLeft_to V (ofL d3) _ _ HVB.out HTL2.out).mono ?_
  rintro e w3 ⟨rfl, hb3⟩
  obtain ⟨hz3, hc3, hf3⟩ := one_kept hb3 hz2 hc2 hf2
  have hv3 := hv2.trans (hb3.mono hv2.size)
  have hm3 := MaxCell.below hm2 hb3
  clear hb3 hz2 hc2 hf2 hv2 hm2
  go_wp2_with fail
  refine (trimNat_to _ _ _ HD3.out HDA.out).mono ?_
  rintro e w4 ⟨rfl, hb4⟩
  obtain ⟨hz4, hc4, hf4⟩ := one_kept hb4 hz3 hc3 hf3
  have hv4 := hv3.trans (hb4.mono hv3.size)
  have hm4 := MaxCell.below hm3 hb4
  clear hb4 hz3 hc3 hf3 hv3 hm3
  go_wp2_with fail
  refine (atoi_to _ _ _ rfl (by omega)).mono ?_
  rintro e w5 ⟨rfl, hb5⟩
  obtain ⟨hz5, hc5, hf5⟩ := one_kept hb5 hz4 hc4 hf4
  have hv5 := hv4.trans (hb5.mono hv4.size)
  have hm5 := MaxCell.below hm4 hb5
  clear hb5 hz4 hc4 hf4 hv4 hm4
  go_wp2_with fail
  refine (cut_to _ b d1 d2 _ (by assumption) (by first | exact HB.out | rfl) (by first | exact HBS.out | (rw [size_ofL]; omega)) HC.out.1 HC.out.2).mono ?_
  rintro e w6 ⟨f, rfl, hb6⟩
  obtain ⟨hz6, hc6, hf6⟩ := one_kept hb6 hz5 hc5 hf5
  have hv6 := hv5.trans (hb6.mono hv5.size)
  have hm6 := MaxCell.below hm5 hb6
  clear hb6 hz5 hc5 hf5 hv5 hm5
  go_wp2_with fail
  refine (hN.out _ _ _ HT.out (by have := HEV.out; omega)).mono ?_
  rintro e w7 ⟨rfl, hb7⟩
  obtain ⟨hz7, hc7, hf7⟩ := one_kept hb7 hz6 hc6 hf6
  have hv7 := hv6.trans (hb7.mono hv6.size)
  have hm7 := MaxCell.below hm6 hb7
  clear hb7 hz6 hc6 hf6 hv6 hm6
  go_wp2
  refine bodyPost_ret (v := .tuple #[.agg #[.bool n', .string u, .int .i64 y'], .int .i64 c]) (by simp [results, Tryz.results44, go_sem, *]) rfl ⟨rfl, ?_⟩
  exact set_three hv7 (Nat.le_refl w.heap.size) _ _ _

set_option maxRecDepth 10000 in
set_option maxHeartbeats 400000 in
theorem decRead_pl (s : ByteArray) (sg b d1 d2 sg2 d3 : List UInt8) (ce : UInt8) (w : World) (hM : MaxCell w) (hs : s.size ≤ 1048576) (hl : bs s = sg ++ (b ++ (ce :: (sg2 ++ d3)))) (h1 : IsSg sg) (h2 : IsBody b d1 d2) (hce : ce = 101 ∨ ce = 69) (hs2 : IsSg sg2) (hd3 : d3.all isDig = true) (hd3n : d3 ≠ []) (hmi : decide (sg2 = [45]) = false) (hsh : 9999 < val d3) :
    Calls Tryz.prog 44 #[.string s] w fun e w' => e = .returned (readV sg d1 d2 sg2 d3) ∧ Below w.heap.size w w' := by
  obtain ⟨n', u, y', c, hV, -, -, -⟩ := formV_lit (decide (sg = [45])) (val (d1 ++ d2)) (exV sg2 d3 - (d2.length : Int))
  obtain ⟨h0, hneg⟩ := head_neg hl h1 h2
  have hlen := congrArg List.length hl
  rw [bs_length, List.length_append, List.length_append] at hlen
  obtain ⟨hda, hdn, hdl⟩ := body_digs h2
  have hdl2 := hdl
  rw [List.length_append] at hdl2
  have hd2b : d2.length ≤ 1048576 := by omega
  have hex := exV_bound sg2 d3
  obtain ⟨neg, hng⟩ : ∃ neg, decide (sg = [45]) = neg := ⟨_, rfl⟩
  rw [hng] at hneg hV
  have hN := Lib.hid (fun (w : World) (t : ByteArray) (x : Int) (ht : bs t = d1 ++ d2) (hx : x = exV sg2 d3 - (d2.length : Int)) => by
    have hts : t.size ≤ 1073741824 := by rw [← bs_length, ht]; omega
    have := normal_any neg t x w (by rw [ht]; exact hda) hts (by omega) (by omega)
    rw [ht, hx, hV, ← hx] at this
    exact this : ∀ (w : World) (t : ByteArray) (x : Int), bs t = d1 ++ d2 → x = exV sg2 d3 - (d2.length : Int) → Calls Tryz.prog 47 #[.bool neg, .string t, .int .i64 x] w fun e w' => e = .returned (.tuple #[.agg #[.bool n', .string u, .int .i64 y'], .int .i64 c]) ∧ Below w.heap.size w w')
  have s1 := size_ofL d1
  have s2 := size_ofL d2
  have hno : ¬ (9223372036854775807 < d1.length + d2.length) := by omega
  have HT := Lib.hid (show bs (ofL d1 ++ ofL d2) = d1 ++ d2 by rw [bs_app, bs_ofL, bs_ofL])
  unfold readV
  rw [hng, hV]
  clear hng
  have HL := Lib.hid hl
  have HTL := Lib.hid (trimLeft_sg h1 (head_body h2 (ce :: (sg2 ++ d3))))
  have hbl : (ofL (b ++ (ce :: (sg2 ++ d3)))).size = b.length + 1 + (sg2 ++ d3).length := by rw [size_ofL, List.length_append, List.length_cons]; omega
  obtain ⟨U, hU⟩ : ∃ U, ofL (b ++ (ce :: (sg2 ++ d3))) = U := ⟨_, rfl⟩
  have hUb : bs U = b ++ (ce :: (sg2 ++ d3)) := by rw [← hU, bs_ofL]
  obtain ⟨B, hB⟩ : ∃ B, b.length = B := ⟨_, rfl⟩
  have hBU : B + 1 ≤ U.size := by rw [← hU, hbl]; omega
  have hBU2 : (B : Int) + 1 ≤ (U.size : Int) := by omega
  have hBU3 : (B : Int) ≤ (U.size : Int) := by omega
  have hUs : U.size ≤ 1048576 := by rw [← hU, hbl]; rw [List.length_cons] at hlen; omega
  have HUS := Lib.hid (show U.size < 4294967281 by omega)
  have HUB := Lib.hid hUb
  have HIA := Lib.hid (show Lib.indexAny (b ++ (ce :: (sg2 ++ d3))) [101, 69] = (B : Int) by rw [anyE_at h2 hce, hB])
  have HAS := Lib.hid (ascii_both h2 (.inr ⟨ce, hce, rfl, hs2, hd3, hd3n⟩))
  have hVb : bs (U.extract (B + 1) U.size) = sg2 ++ d3 := by rw [bs_ext, hUb, ← hB, ← List.drop_drop, List.drop_left]; rfl
  obtain ⟨V, hVV⟩ : ∃ V, U.extract (B + 1) U.size = V := ⟨_, rfl⟩
  rw [hVV] at hVb
  have HVB := Lib.hid hVb
  have HTL2 := Lib.hid (trimLeft_sg hs2 (head_digs hd3))
  have HD3 := Lib.hid (bs_ofL d3)
  have HDA := Lib.hid hd3
  have hdl3 := dec_len (val d3)
  have hd4 := size_ofL (dec (val d3))
  have hfr : bs (U.extract 0 B) = b := by rw [bs_front, hUb, ← hB, List.take_left]
  have HB := Lib.hid hfr
  have HBS := Lib.hid (show (U.extract 0 B).size < 4294967281 by rw [← bs_length, hfr]; omega)
  have HC := Lib.hid (cut_body h2)
  have hV0 : 0 < V.size := by
    rw [← bs_length, hVb, List.length_append]
    have := List.length_pos_iff.2 hd3n
    omega
  have hm45 : ((V[0].toNat : Int) == 45) = false := by
    have e := bs_drop V 0 hV0
    rw [List.drop_zero, hVb] at e
    have hx : decide (V[0] = 45) = false := by
      rw [← hmi]
      rcases hs2 with rfl | rfl | rfl
      · cases d3 with
        | nil => exact absurd rfl hd3n
        | cons c t =>
          simp only [List.nil_append, List.cons.injEq] at e
          rw [← e.1]
          have := (head_digs hd3 c t rfl).2
          simp [this]
      · simp only [List.cons_append, List.nil_append, List.cons.injEq] at e
        rw [← e.1]; rfl
      · simp only [List.cons_append, List.nil_append, List.cons.injEq] at e
        rw [← e.1]; rfl
    rw [← hx]
    rw [Bool.eq_iff_iff, beq_iff_eq, decide_eq_true_iff]
    exact ⟨fun h => u8_eq (d := 45) h, fun h => by rw [h]; rfl⟩
  have hlen4 : 4 < (dec (val d3)).length := by
    apply Classical.byContradiction; intro hn
    have h5 := dec_lt (val d3)
    have h6 := Nat.pow_le_pow_right (n := 10) (by decide) (show (dec (val d3)).length ≤ 4 by omega)
    omega
  have hev : exV sg2 d3 = 9999 := by
    unfold exV
    rw [show (if sg2 = [45] then -((min 9999 (val d3) : Nat) : Int) else ((min 9999 (val d3) : Nat) : Int)) = if decide (sg2 = [45]) = true then -((min 9999 (val d3) : Nat) : Int) else ((min 9999 (val d3) : Nat) : Int) by simp, hmi]
    simp only [if_true, if_false, Bool.false_eq_true]
    omega
  have HTL := Lib.hid (show Lib.trimLeftS (sg ++ (b ++ (ce :: (sg2 ++ d3)))) [43, 45] = bs U by rw [hUb]; exact HTL.out)
  have HUO := Lib.hid (show ofL (bs U) = U from ofL_bs U)
  clear hV hl hda hdn h1 h2 hU hUb hVb hfr hs2 hd3 hd3n hmi hB hbl hlen
  have HEV := Lib.hid hev
  clear hev
  go_enter Tryz.func44, Tryz.ntmps44
  go_wp2_with fail
  obtain ⟨w0, hw0, hz0, hv0, hc0, hf0⟩ := one_laid w false ⟨#[]⟩ 0
  rw [hw0]
  have hm0 : MaxCell w0 := hM.below hv0
  clear hw0
  refine (trimLeft_to s U _ _ HL.out HTL.out).mono ?_
  rintro e w1 ⟨rfl, hb1⟩
  obtain ⟨hz1, hc1, hf1⟩ := one_kept hb1 hz0 hc0 hf0
  have hv1 := hv0.trans (hb1.mono hv0.size)
  have hm1 := MaxCell.below hm0 hb1
  clear hb1 hz0 hc0 hf0 hv0 hm0
  go_wp2_with fail
  refine (indexAny_to _ _ (B : Int) _ HUB.out HUS.out HAS.out HIA.out).mono ?_
  rintro e w2 ⟨rfl, hb2⟩
  obtain ⟨hz2, hc2, hf2⟩ := one_kept hb2 hz1 hc1 hf1
  have hv2 := hv1.trans (hb2.mono hv1.size)
  have hm2 := MaxCell.below hm1 hb2
  clear hb2 hz1 hc1 hf1 hv1 hm1
  go_wp2_with fail
  refine (trimLeft_to V (ofL d3) _ _ HVB.out HTL2.out).mono ?_
  rintro e w3 ⟨rfl, hb3⟩
  obtain ⟨hz3, hc3, hf3⟩ := one_kept hb3 hz2 hc2 hf2
  have hv3 := hv2.trans (hb3.mono hv2.size)
  have hm3 := MaxCell.below hm2 hb3
  clear hb3 hz2 hc2 hf2 hv2 hm2
  go_wp2_with fail
  refine (trimNat_to _ _ _ HD3.out HDA.out).mono ?_
  rintro e w4 ⟨rfl, hb4⟩
  obtain ⟨hz4, hc4, hf4⟩ := one_kept hb4 hz3 hc3 hf3
  have hv4 := hv3.trans (hb4.mono hv3.size)
  have hm4 := MaxCell.below hm3 hb4
  clear hb4 hz3 hc3 hf3 hv3 hm3
  go_wp2_with fail
  refine (cut_to _ b d1 d2 _ (by assumption) (by first | exact HB.out | rfl) (by first | exact HBS.out | (rw [size_ofL]; omega)) HC.out.1 HC.out.2).mono ?_
  rintro e w5 ⟨f, rfl, hb5⟩
  obtain ⟨hz5, hc5, hf5⟩ := one_kept hb5 hz4 hc4 hf4
  have hv5 := hv4.trans (hb5.mono hv4.size)
  have hm5 := MaxCell.below hm4 hb5
  clear hb5 hz4 hc4 hf4 hv4 hm4
  go_wp2_with fail
  refine (hN.out _ _ _ HT.out (by have := HEV.out; omega)).mono ?_
  rintro e w6 ⟨rfl, hb6⟩
  obtain ⟨hz6, hc6, hf6⟩ := one_kept hb6 hz5 hc5 hf5
  have hv6 := hv5.trans (hb6.mono hv5.size)
  have hm6 := MaxCell.below hm5 hb6
  clear hb6 hz5 hc5 hf5 hv5 hm5
  go_wp2
  refine bodyPost_ret (v := .tuple #[.agg #[.bool n', .string u, .int .i64 y'], .int .i64 c]) (by simp [results, Tryz.results44, go_sem, *]) rfl ⟨rfl, ?_⟩
  exact set_three hv6 (Nat.le_refl w.heap.size) _ _ _

set_option maxRecDepth 10000 in
set_option maxHeartbeats 400000 in
theorem decRead_ms (s : ByteArray) (sg b d1 d2 sg2 d3 : List UInt8) (ce : UInt8) (w : World) (hM : MaxCell w) (hs : s.size ≤ 1048576) (hl : bs s = sg ++ (b ++ (ce :: (sg2 ++ d3)))) (h1 : IsSg sg) (h2 : IsBody b d1 d2) (hce : ce = 101 ∨ ce = 69) (hs2 : IsSg sg2) (hd3 : d3.all isDig = true) (hd3n : d3 ≠ []) (hmi : decide (sg2 = [45]) = true) (hsh : val d3 ≤ 9999) :
    Calls Tryz.prog 44 #[.string s] w fun e w' => e = .returned (readV sg d1 d2 sg2 d3) ∧ Below w.heap.size w w' := by
  obtain ⟨n', u, y', c, hV, -, -, -⟩ := formV_lit (decide (sg = [45])) (val (d1 ++ d2)) (exV sg2 d3 - (d2.length : Int))
  obtain ⟨h0, hneg⟩ := head_neg hl h1 h2
  have hlen := congrArg List.length hl
  rw [bs_length, List.length_append, List.length_append] at hlen
  obtain ⟨hda, hdn, hdl⟩ := body_digs h2
  have hdl2 := hdl
  rw [List.length_append] at hdl2
  have hd2b : d2.length ≤ 1048576 := by omega
  have hex := exV_bound sg2 d3
  obtain ⟨neg, hng⟩ : ∃ neg, decide (sg = [45]) = neg := ⟨_, rfl⟩
  rw [hng] at hneg hV
  have hN := Lib.hid (fun (w : World) (t : ByteArray) (x : Int) (ht : bs t = d1 ++ d2) (hx : x = exV sg2 d3 - (d2.length : Int)) => by
    have hts : t.size ≤ 1073741824 := by rw [← bs_length, ht]; omega
    have := normal_any neg t x w (by rw [ht]; exact hda) hts (by omega) (by omega)
    rw [ht, hx, hV, ← hx] at this
    exact this : ∀ (w : World) (t : ByteArray) (x : Int), bs t = d1 ++ d2 → x = exV sg2 d3 - (d2.length : Int) → Calls Tryz.prog 47 #[.bool neg, .string t, .int .i64 x] w fun e w' => e = .returned (.tuple #[.agg #[.bool n', .string u, .int .i64 y'], .int .i64 c]) ∧ Below w.heap.size w w')
  have s1 := size_ofL d1
  have s2 := size_ofL d2
  have hno : ¬ (9223372036854775807 < d1.length + d2.length) := by omega
  have HT := Lib.hid (show bs (ofL d1 ++ ofL d2) = d1 ++ d2 by rw [bs_app, bs_ofL, bs_ofL])
  unfold readV
  rw [hng, hV]
  clear hng
  have HL := Lib.hid hl
  have HTL := Lib.hid (trimLeft_sg h1 (head_body h2 (ce :: (sg2 ++ d3))))
  have hbl : (ofL (b ++ (ce :: (sg2 ++ d3)))).size = b.length + 1 + (sg2 ++ d3).length := by rw [size_ofL, List.length_append, List.length_cons]; omega
  obtain ⟨U, hU⟩ : ∃ U, ofL (b ++ (ce :: (sg2 ++ d3))) = U := ⟨_, rfl⟩
  have hUb : bs U = b ++ (ce :: (sg2 ++ d3)) := by rw [← hU, bs_ofL]
  obtain ⟨B, hB⟩ : ∃ B, b.length = B := ⟨_, rfl⟩
  have hBU : B + 1 ≤ U.size := by rw [← hU, hbl]; omega
  have hBU2 : (B : Int) + 1 ≤ (U.size : Int) := by omega
  have hBU3 : (B : Int) ≤ (U.size : Int) := by omega
  have hUs : U.size ≤ 1048576 := by rw [← hU, hbl]; rw [List.length_cons] at hlen; omega
  have HUS := Lib.hid (show U.size < 4294967281 by omega)
  have HUB := Lib.hid hUb
  have HIA := Lib.hid (show Lib.indexAny (b ++ (ce :: (sg2 ++ d3))) [101, 69] = (B : Int) by rw [anyE_at h2 hce, hB])
  have HAS := Lib.hid (ascii_both h2 (.inr ⟨ce, hce, rfl, hs2, hd3, hd3n⟩))
  have hVb : bs (U.extract (B + 1) U.size) = sg2 ++ d3 := by rw [bs_ext, hUb, ← hB, ← List.drop_drop, List.drop_left]; rfl
  obtain ⟨V, hVV⟩ : ∃ V, U.extract (B + 1) U.size = V := ⟨_, rfl⟩
  rw [hVV] at hVb
  have HVB := Lib.hid hVb
  have HTL2 := Lib.hid (trimLeft_sg hs2 (head_digs hd3))
  have HD3 := Lib.hid (bs_ofL d3)
  have HDA := Lib.hid hd3
  have hdl3 := dec_len (val d3)
  have hd4 := size_ofL (dec (val d3))
  have hfr : bs (U.extract 0 B) = b := by rw [bs_front, hUb, ← hB, List.take_left]
  have HB := Lib.hid hfr
  have HBS := Lib.hid (show (U.extract 0 B).size < 4294967281 by rw [← bs_length, hfr]; omega)
  have HC := Lib.hid (cut_body h2)
  have hV0 : 0 < V.size := by
    rw [← bs_length, hVb, List.length_append]
    have := List.length_pos_iff.2 hd3n
    omega
  have hm45 : ((V[0].toNat : Int) == 45) = true := by
    have e := bs_drop V 0 hV0
    rw [List.drop_zero, hVb] at e
    have hx : decide (V[0] = 45) = true := by
      rw [← hmi]
      rcases hs2 with rfl | rfl | rfl
      · cases d3 with
        | nil => exact absurd rfl hd3n
        | cons c t =>
          simp only [List.nil_append, List.cons.injEq] at e
          rw [← e.1]
          have := (head_digs hd3 c t rfl).2
          simp [this]
      · simp only [List.cons_append, List.nil_append, List.cons.injEq] at e
        rw [← e.1]; rfl
      · simp only [List.cons_append, List.nil_append, List.cons.injEq] at e
        rw [← e.1]; rfl
    rw [← hx]
    rw [Bool.eq_iff_iff, beq_iff_eq, decide_eq_true_iff]
    exact ⟨fun h => u8_eq (d := 45) h, fun h => by rw [h]; rfl⟩
  have hlen4 : (dec (val d3)).length ≤ 4 := by
    exact dec_len_le 4 _ (by decide) (by omega)
  have hev : exV sg2 d3 = -((val d3 : Nat) : Int) := by
    unfold exV
    rw [show (if sg2 = [45] then -((min 9999 (val d3) : Nat) : Int) else ((min 9999 (val d3) : Nat) : Int)) = if decide (sg2 = [45]) = true then -((min 9999 (val d3) : Nat) : Int) else ((min 9999 (val d3) : Nat) : Int) by simp, hmi]
    simp only [if_true, if_false, Bool.false_eq_true]
    omega
  have HTL := Lib.hid (show Lib.trimLeftS (sg ++ (b ++ (ce :: (sg2 ++ d3)))) [43, 45] = bs U by rw [hUb]; exact HTL.out)
  have HUO := Lib.hid (show ofL (bs U) = U from ofL_bs U)
  clear hV hl hda hdn h1 h2 hU hUb hVb hfr hs2 hd3 hd3n hmi hB hbl hlen
  have HEV := Lib.hid hev
  clear hev
  go_enter Tryz.func44, Tryz.ntmps44
  go_wp2_with fail
  obtain ⟨w0, hw0, hz0, hv0, hc0, hf0⟩ := one_laid w false ⟨#[]⟩ 0
  rw [hw0]
  have hm0 : MaxCell w0 := hM.below hv0
  clear hw0
  refine (trimLeft_to s U _ _ HL.out HTL.out).mono ?_
  rintro e w1 ⟨rfl, hb1⟩
  obtain ⟨hz1, hc1, hf1⟩ := one_kept hb1 hz0 hc0 hf0
  have hv1 := hv0.trans (hb1.mono hv0.size)
  have hm1 := MaxCell.below hm0 hb1
  clear hb1 hz0 hc0 hf0 hv0 hm0
  go_wp2_with fail
  refine (indexAny_to _ _ (B : Int) _ HUB.out HUS.out HAS.out HIA.out).mono ?_
  rintro e w2 ⟨rfl, hb2⟩
  obtain ⟨hz2, hc2, hf2⟩ := one_kept hb2 hz1 hc1 hf1
  have hv2 := hv1.trans (hb2.mono hv1.size)
  have hm2 := MaxCell.below hm1 hb2
  clear hb2 hz1 hc1 hf1 hv1 hm1
  go_wp2_with fail
  refine (trimLeft_to V (ofL d3) _ _ HVB.out HTL2.out).mono ?_
  rintro e w3 ⟨rfl, hb3⟩
  obtain ⟨hz3, hc3, hf3⟩ := one_kept hb3 hz2 hc2 hf2
  have hv3 := hv2.trans (hb3.mono hv2.size)
  have hm3 := MaxCell.below hm2 hb3
  clear hb3 hz2 hc2 hf2 hv2 hm2
  go_wp2_with fail
  refine (trimNat_to _ _ _ HD3.out HDA.out).mono ?_
  rintro e w4 ⟨rfl, hb4⟩
  obtain ⟨hz4, hc4, hf4⟩ := one_kept hb4 hz3 hc3 hf3
  have hv4 := hv3.trans (hb4.mono hv3.size)
  have hm4 := MaxCell.below hm3 hb4
  clear hb4 hz3 hc3 hf3 hv3 hm3
  go_wp2_with fail
  refine (atoi_to _ _ _ rfl (by omega)).mono ?_
  rintro e w5 ⟨rfl, hb5⟩
  obtain ⟨hz5, hc5, hf5⟩ := one_kept hb5 hz4 hc4 hf4
  have hv5 := hv4.trans (hb5.mono hv4.size)
  have hm5 := MaxCell.below hm4 hb5
  clear hb5 hz4 hc4 hf4 hv4 hm4
  go_wp2_with fail
  refine (cut_to _ b d1 d2 _ (by assumption) (by first | exact HB.out | rfl) (by first | exact HBS.out | (rw [size_ofL]; omega)) HC.out.1 HC.out.2).mono ?_
  rintro e w6 ⟨f, rfl, hb6⟩
  obtain ⟨hz6, hc6, hf6⟩ := one_kept hb6 hz5 hc5 hf5
  have hv6 := hv5.trans (hb6.mono hv5.size)
  have hm6 := MaxCell.below hm5 hb6
  clear hb6 hz5 hc5 hf5 hv5 hm5
  go_wp2_with fail
  refine (hN.out _ _ _ HT.out (by have := HEV.out; omega)).mono ?_
  rintro e w7 ⟨rfl, hb7⟩
  obtain ⟨hz7, hc7, hf7⟩ := one_kept hb7 hz6 hc6 hf6
  have hv7 := hv6.trans (hb7.mono hv6.size)
  have hm7 := MaxCell.below hm6 hb7
  clear hb7 hz6 hc6 hf6 hv6 hm6
  go_wp2
  refine bodyPost_ret (v := .tuple #[.agg #[.bool n', .string u, .int .i64 y'], .int .i64 c]) (by simp [results, Tryz.results44, go_sem, *]) rfl ⟨rfl, ?_⟩
  exact set_three hv7 (Nat.le_refl w.heap.size) _ _ _

set_option maxRecDepth 10000 in
set_option maxHeartbeats 400000 in
theorem decRead_ml (s : ByteArray) (sg b d1 d2 sg2 d3 : List UInt8) (ce : UInt8) (w : World) (hM : MaxCell w) (hs : s.size ≤ 1048576) (hl : bs s = sg ++ (b ++ (ce :: (sg2 ++ d3)))) (h1 : IsSg sg) (h2 : IsBody b d1 d2) (hce : ce = 101 ∨ ce = 69) (hs2 : IsSg sg2) (hd3 : d3.all isDig = true) (hd3n : d3 ≠ []) (hmi : decide (sg2 = [45]) = true) (hsh : 9999 < val d3) :
    Calls Tryz.prog 44 #[.string s] w fun e w' => e = .returned (readV sg d1 d2 sg2 d3) ∧ Below w.heap.size w w' := by
  obtain ⟨n', u, y', c, hV, -, -, -⟩ := formV_lit (decide (sg = [45])) (val (d1 ++ d2)) (exV sg2 d3 - (d2.length : Int))
  obtain ⟨h0, hneg⟩ := head_neg hl h1 h2
  have hlen := congrArg List.length hl
  rw [bs_length, List.length_append, List.length_append] at hlen
  obtain ⟨hda, hdn, hdl⟩ := body_digs h2
  have hdl2 := hdl
  rw [List.length_append] at hdl2
  have hd2b : d2.length ≤ 1048576 := by omega
  have hex := exV_bound sg2 d3
  obtain ⟨neg, hng⟩ : ∃ neg, decide (sg = [45]) = neg := ⟨_, rfl⟩
  rw [hng] at hneg hV
  have hN := Lib.hid (fun (w : World) (t : ByteArray) (x : Int) (ht : bs t = d1 ++ d2) (hx : x = exV sg2 d3 - (d2.length : Int)) => by
    have hts : t.size ≤ 1073741824 := by rw [← bs_length, ht]; omega
    have := normal_any neg t x w (by rw [ht]; exact hda) hts (by omega) (by omega)
    rw [ht, hx, hV, ← hx] at this
    exact this : ∀ (w : World) (t : ByteArray) (x : Int), bs t = d1 ++ d2 → x = exV sg2 d3 - (d2.length : Int) → Calls Tryz.prog 47 #[.bool neg, .string t, .int .i64 x] w fun e w' => e = .returned (.tuple #[.agg #[.bool n', .string u, .int .i64 y'], .int .i64 c]) ∧ Below w.heap.size w w')
  have s1 := size_ofL d1
  have s2 := size_ofL d2
  have hno : ¬ (9223372036854775807 < d1.length + d2.length) := by omega
  have HT := Lib.hid (show bs (ofL d1 ++ ofL d2) = d1 ++ d2 by rw [bs_app, bs_ofL, bs_ofL])
  unfold readV
  rw [hng, hV]
  clear hng
  have HL := Lib.hid hl
  have HTL := Lib.hid (trimLeft_sg h1 (head_body h2 (ce :: (sg2 ++ d3))))
  have hbl : (ofL (b ++ (ce :: (sg2 ++ d3)))).size = b.length + 1 + (sg2 ++ d3).length := by rw [size_ofL, List.length_append, List.length_cons]; omega
  obtain ⟨U, hU⟩ : ∃ U, ofL (b ++ (ce :: (sg2 ++ d3))) = U := ⟨_, rfl⟩
  have hUb : bs U = b ++ (ce :: (sg2 ++ d3)) := by rw [← hU, bs_ofL]
  obtain ⟨B, hB⟩ : ∃ B, b.length = B := ⟨_, rfl⟩
  have hBU : B + 1 ≤ U.size := by rw [← hU, hbl]; omega
  have hBU2 : (B : Int) + 1 ≤ (U.size : Int) := by omega
  have hBU3 : (B : Int) ≤ (U.size : Int) := by omega
  have hUs : U.size ≤ 1048576 := by rw [← hU, hbl]; rw [List.length_cons] at hlen; omega
  have HUS := Lib.hid (show U.size < 4294967281 by omega)
  have HUB := Lib.hid hUb
  have HIA := Lib.hid (show Lib.indexAny (b ++ (ce :: (sg2 ++ d3))) [101, 69] = (B : Int) by rw [anyE_at h2 hce, hB])
  have HAS := Lib.hid (ascii_both h2 (.inr ⟨ce, hce, rfl, hs2, hd3, hd3n⟩))
  have hVb : bs (U.extract (B + 1) U.size) = sg2 ++ d3 := by rw [bs_ext, hUb, ← hB, ← List.drop_drop, List.drop_left]; rfl
  obtain ⟨V, hVV⟩ : ∃ V, U.extract (B + 1) U.size = V := ⟨_, rfl⟩
  rw [hVV] at hVb
  have HVB := Lib.hid hVb
  have HTL2 := Lib.hid (trimLeft_sg hs2 (head_digs hd3))
  have HD3 := Lib.hid (bs_ofL d3)
  have HDA := Lib.hid hd3
  have hdl3 := dec_len (val d3)
  have hd4 := size_ofL (dec (val d3))
  have hfr : bs (U.extract 0 B) = b := by rw [bs_front, hUb, ← hB, List.take_left]
  have HB := Lib.hid hfr
  have HBS := Lib.hid (show (U.extract 0 B).size < 4294967281 by rw [← bs_length, hfr]; omega)
  have HC := Lib.hid (cut_body h2)
  have hV0 : 0 < V.size := by
    rw [← bs_length, hVb, List.length_append]
    have := List.length_pos_iff.2 hd3n
    omega
  have hm45 : ((V[0].toNat : Int) == 45) = true := by
    have e := bs_drop V 0 hV0
    rw [List.drop_zero, hVb] at e
    have hx : decide (V[0] = 45) = true := by
      rw [← hmi]
      rcases hs2 with rfl | rfl | rfl
      · cases d3 with
        | nil => exact absurd rfl hd3n
        | cons c t =>
          simp only [List.nil_append, List.cons.injEq] at e
          rw [← e.1]
          have := (head_digs hd3 c t rfl).2
          simp [this]
      · simp only [List.cons_append, List.nil_append, List.cons.injEq] at e
        rw [← e.1]; rfl
      · simp only [List.cons_append, List.nil_append, List.cons.injEq] at e
        rw [← e.1]; rfl
    rw [← hx]
    rw [Bool.eq_iff_iff, beq_iff_eq, decide_eq_true_iff]
    exact ⟨fun h => u8_eq (d := 45) h, fun h => by rw [h]; rfl⟩
  have hlen4 : 4 < (dec (val d3)).length := by
    apply Classical.byContradiction; intro hn
    have h5 := dec_lt (val d3)
    have h6 := Nat.pow_le_pow_right (n := 10) (by decide) (show (dec (val d3)).length ≤ 4 by omega)
    omega
  have hev : exV sg2 d3 = -9999 := by
    unfold exV
    rw [show (if sg2 = [45] then -((min 9999 (val d3) : Nat) : Int) else ((min 9999 (val d3) : Nat) : Int)) = if decide (sg2 = [45]) = true then -((min 9999 (val d3) : Nat) : Int) else ((min 9999 (val d3) : Nat) : Int) by simp, hmi]
    simp only [if_true, if_false, Bool.false_eq_true]
    omega
  have HTL := Lib.hid (show Lib.trimLeftS (sg ++ (b ++ (ce :: (sg2 ++ d3)))) [43, 45] = bs U by rw [hUb]; exact HTL.out)
  have HUO := Lib.hid (show ofL (bs U) = U from ofL_bs U)
  clear hV hl hda hdn h1 h2 hU hUb hVb hfr hs2 hd3 hd3n hmi hB hbl hlen
  have HEV := Lib.hid hev
  clear hev
  go_enter Tryz.func44, Tryz.ntmps44
  go_wp2_with fail
  obtain ⟨w0, hw0, hz0, hv0, hc0, hf0⟩ := one_laid w false ⟨#[]⟩ 0
  rw [hw0]
  have hm0 : MaxCell w0 := hM.below hv0
  clear hw0
  refine (trimLeft_to s U _ _ HL.out HTL.out).mono ?_
  rintro e w1 ⟨rfl, hb1⟩
  obtain ⟨hz1, hc1, hf1⟩ := one_kept hb1 hz0 hc0 hf0
  have hv1 := hv0.trans (hb1.mono hv0.size)
  have hm1 := MaxCell.below hm0 hb1
  clear hb1 hz0 hc0 hf0 hv0 hm0
  go_wp2_with fail
  refine (indexAny_to _ _ (B : Int) _ HUB.out HUS.out HAS.out HIA.out).mono ?_
  rintro e w2 ⟨rfl, hb2⟩
  obtain ⟨hz2, hc2, hf2⟩ := one_kept hb2 hz1 hc1 hf1
  have hv2 := hv1.trans (hb2.mono hv1.size)
  have hm2 := MaxCell.below hm1 hb2
  clear hb2 hz1 hc1 hf1 hv1 hm1
  go_wp2_with fail
  refine (trimLeft_to V (ofL d3) _ _ HVB.out HTL2.out).mono ?_
  rintro e w3 ⟨rfl, hb3⟩
  obtain ⟨hz3, hc3, hf3⟩ := one_kept hb3 hz2 hc2 hf2
  have hv3 := hv2.trans (hb3.mono hv2.size)
  have hm3 := MaxCell.below hm2 hb3
  clear hb3 hz2 hc2 hf2 hv2 hm2
  go_wp2_with fail
  refine (trimNat_to _ _ _ HD3.out HDA.out).mono ?_
  rintro e w4 ⟨rfl, hb4⟩
  obtain ⟨hz4, hc4, hf4⟩ := one_kept hb4 hz3 hc3 hf3
  have hv4 := hv3.trans (hb4.mono hv3.size)
  have hm4 := MaxCell.below hm3 hb4
  clear hb4 hz3 hc3 hf3 hv3 hm3
  go_wp2_with fail
  refine (cut_to _ b d1 d2 _ (by assumption) (by first | exact HB.out | rfl) (by first | exact HBS.out | (rw [size_ofL]; omega)) HC.out.1 HC.out.2).mono ?_
  rintro e w5 ⟨f, rfl, hb5⟩
  obtain ⟨hz5, hc5, hf5⟩ := one_kept hb5 hz4 hc4 hf4
  have hv5 := hv4.trans (hb5.mono hv4.size)
  have hm5 := MaxCell.below hm4 hb5
  clear hb5 hz4 hc4 hf4 hv4 hm4
  go_wp2_with fail
  refine (hN.out _ _ _ HT.out (by have := HEV.out; omega)).mono ?_
  rintro e w6 ⟨rfl, hb6⟩
  obtain ⟨hz6, hc6, hf6⟩ := one_kept hb6 hz5 hc5 hf5
  have hv6 := hv5.trans (hb6.mono hv5.size)
  have hm6 := MaxCell.below hm5 hb6
  clear hb6 hz5 hc5 hf5 hv5 hm5
  go_wp2
  refine bodyPost_ret (v := .tuple #[.agg #[.bool n', .string u, .int .i64 y'], .int .i64 c]) (by simp [results, Tryz.results44, go_sem, *]) rfl ⟨rfl, ?_⟩
  exact set_three hv6 (Nat.le_refl w.heap.size) _ _ _

theorem decRead_any (s : ByteArray) (sg b d1 d2 ex sg2 d3 : List UInt8) (w : World) (hM : MaxCell w) (hs : s.size ≤ 1048576) (hl : bs s = sg ++ (b ++ ex)) (h1 : IsSg sg) (h2 : IsBody b d1 d2) (h3 : IsEx ex sg2 d3) :
    Calls Tryz.prog 44 #[.string s] w fun e w' => e = .returned (readV sg d1 d2 sg2 d3) ∧ Below w.heap.size w w' := by
  rcases h3 with ⟨rfl, rfl, rfl⟩ | ⟨ce, hce, rfl, hs2, hd3, hd3n⟩
  · exact decRead_plain s sg b d1 d2 [] [] rfl w hM hs hl h1 h2
  · cases hmi : decide (sg2 = [45])
    · by_cases hsh : val d3 ≤ 9999
      · exact decRead_ps s sg b d1 d2 sg2 d3 ce w hM hs hl h1 h2 hce hs2 hd3 hd3n hmi hsh
      · exact decRead_pl s sg b d1 d2 sg2 d3 ce w hM hs hl h1 h2 hce hs2 hd3 hd3n hmi (by omega)
    · by_cases hsh : val d3 ≤ 9999
      · exact decRead_ms s sg b d1 d2 sg2 d3 ce w hM hs hl h1 h2 hce hs2 hd3 hd3n hmi hsh
      · exact decRead_ml s sg b d1 d2 sg2 d3 ce w hM hs hl h1 h2 hce hs2 hd3 hd3n hmi (by omega)
end Go.Proofs.YtjjpdoabagnmoaaGreatDoor

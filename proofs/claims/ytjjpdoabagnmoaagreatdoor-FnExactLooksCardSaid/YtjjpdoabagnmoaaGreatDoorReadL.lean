/-
  Plain facts on reading a number's text: what its parts are worth. No program here. No condition.
-/
import Derived.Test.YtjjpdoabagnmoaaGreatDoorScanL
namespace Go.Proofs.YtjjpdoabagnmoaaGreatDoor
open Go.RowKit

/-- the digits and the power of ten out of the body, one byte after the other -/
def readA : List UInt8 → Bool → List UInt8 → Int → List UInt8 × Int × List UInt8
  | [], _, d, x => (d, x, [])
  | c :: l, p, d, x => if c = 101 ∨ c = 69 then (d, x, c :: l) else if c = 46 then readA l true d x else readA l p (d ++ [c]) (if p then x - 1 else x)
theorem readA_nil (p : Bool) (d : List UInt8) (x : Int) : readA [] p d x = (d, x, []) := rfl
theorem readA_e {c : UInt8} (h : c = 101 ∨ c = 69) (l : List UInt8) (p : Bool) (d : List UInt8) (x : Int) : readA (c :: l) p d x = (d, x, c :: l) := by rw [readA, if_pos h]
theorem readA_dot (l : List UInt8) (p : Bool) (d : List UInt8) (x : Int) : readA (46 :: l) p d x = readA l true d x := by
  rw [readA, if_neg (by decide), if_pos rfl]
theorem readA_dig {c : UInt8} (h : ¬ (c = 101 ∨ c = 69)) (h2 : ¬ c = 46) (l : List UInt8) (p : Bool) (d : List UInt8) (x : Int) : readA (c :: l) p d x = readA l p (d ++ [c]) (if p then x - 1 else x) := by
  rw [readA, if_neg h, if_neg h2]
theorem dig_not {c : UInt8} (h : isDig c = true) : ¬ (c = 101 ∨ c = 69) ∧ ¬ c = 46 := by
  have := (isDig_iff c).1 h
  refine ⟨?_, ?_⟩
  · rintro (rfl | rfl) <;> exact absurd h (by decide)
  · rintro rfl; exact absurd h (by decide)
theorem readA_digs : ∀ (m l d : List UInt8) (p : Bool) (x : Int), m.all isDig = true → readA (m ++ l) p d x = readA l p (d ++ m) (if p then x - (m.length : Int) else x)
  | [], l, d, p, x, _ => by cases p <;> simp
  | c :: m, l, d, p, x, h => by
    rw [List.all_cons, Bool.and_eq_true] at h
    rw [List.cons_append, readA_dig (dig_not h.1).1 (dig_not h.1).2, readA_digs m l _ p _ h.2, List.append_assoc]
    cases p
    · rfl
    · simp only [if_pos, List.length_cons, List.singleton_append]
      congr 1; omega
theorem ex_head {ex sg d : List UInt8} (h : IsEx ex sg d) (p : Bool) (t : List UInt8) (x : Int) : readA ex p t x = (t, x, ex) := by
  rcases h with ⟨rfl, -⟩ | ⟨c, hc, rfl, -⟩
  · rfl
  · exact readA_e hc _ _ _ _
/-- what the body's loop ends with -/
theorem readA_body {b d1 d2 ex sg d : List UInt8} (hb : IsBody b d1 d2) (he : IsEx ex sg d) : readA (b ++ ex) false [] 0 = (d1 ++ d2, -(d2.length : Int), ex) := by
  rcases hb with ⟨rfl, rfl, h1, -⟩ | ⟨rfl, h1, h2, -⟩
  · rw [readA_digs _ _ _ _ _ h1, ex_head he]; simp
  · rw [List.append_assoc, readA_digs _ _ _ _ _ h1, List.cons_append, readA_dot, readA_digs _ _ _ _ _ h2, ex_head he]
    simp
/-- the exponent's sign and size, one byte after the other -/
def readB : List UInt8 → Bool → Nat → Bool × Nat
  | [], m, n => (m, n)
  | c :: l, m, n => readB l (m || decide (c = 45)) (if isDig c = true ∧ n < 10000 then 10 * n + (c.toNat - 48) else n)
theorem readB_nil (m : Bool) (n : Nat) : readB [] m n = (m, n) := rfl
theorem readB_cons (c : UInt8) (l : List UInt8) (m : Bool) (n : Nat) : readB (c :: l) m n = readB l (m || decide (c = 45)) (if isDig c = true ∧ n < 10000 then 10 * n + (c.toNat - 48) else n) := rfl
theorem readB_nodig {c : UInt8} (h : isDig c = false) (l : List UInt8) (m : Bool) (n : Nat) : readB (c :: l) m n = readB l (m || decide (c = 45)) n := by
  rw [readB_cons, if_neg (by rintro ⟨e, -⟩; rw [h] at e; exact absurd e (by decide))]
theorem readB_digs : ∀ (l : List UInt8) (m : Bool) (n : Nat), l.all isDig = true → (readB l m n).1 = m ∧ (n < 10000 ∨ 10000 ≤ n) ∧ min 9999 (readB l m n).2 = min 9999 (l.foldl (fun a c => 10 * a + (c.toNat - 48)) n)
  | [], m, n, _ => ⟨rfl, by omega, rfl⟩
  | c :: l, m, n, h => by
    rw [List.all_cons, Bool.and_eq_true] at h
    have hc : decide (c = 45) = false := by
      rw [decide_eq_false_iff_not]; rintro rfl; exact absurd h.1 (by decide)
    rw [readB_cons, hc, Bool.or_false, List.foldl_cons]
    by_cases hn : n < 10000
    · rw [if_pos ⟨h.1, hn⟩]
      obtain ⟨h1, -, h3⟩ := readB_digs l m (10 * n + (c.toNat - 48)) h.2
      exact ⟨h1, by omega, h3⟩
    · rw [if_neg (fun e => hn e.2)]
      obtain ⟨h1, -, h3⟩ := readB_digs l m n h.2
      refine ⟨h1, by omega, ?_⟩
      rw [h3]
      have e1 := val_fold l n
      have e2 := val_fold l (10 * n + (c.toNat - 48))
      rw [e1, e2]
      have hp : 1 ≤ 10 ^ l.length := Nat.one_le_pow _ _ (by decide)
      have a1 : n * 1 ≤ n * 10 ^ l.length := Nat.mul_le_mul_left _ hp
      have a2 : (10 * n + (c.toNat - 48)) * 1 ≤ (10 * n + (c.toNat - 48)) * 10 ^ l.length := Nat.mul_le_mul_left _ hp
      omega
/-- the exponent that is told -/
def exV (sg d : List UInt8) : Int := if sg = [45] then -((min 9999 (val d) : Nat) : Int) else ((min 9999 (val d) : Nat) : Int)
theorem exV_bound (sg d : List UInt8) : -9999 ≤ exV sg d ∧ exV sg d ≤ 9999 := by
  have : min 9999 (val d) ≤ 9999 := Nat.min_le_left _ _
  unfold exV
  split <;> omega
theorem readB_ex {sg d : List UInt8} (hs : IsSg sg) (hd : d.all isDig = true) : exV sg d = (if (readB (sg ++ d) false 0).1 then -((min 9999 (readB (sg ++ d) false 0).2 : Nat) : Int) else ((min 9999 (readB (sg ++ d) false 0).2 : Nat) : Int)) := by
  rcases hs with rfl | rfl | rfl
  · obtain ⟨h1, -, h3⟩ := readB_digs d false 0 hd
    rw [List.nil_append, h1, h3]; rfl
  · rw [List.cons_append, List.nil_append, readB_nodig (by decide)]
    obtain ⟨h1, -, h3⟩ := readB_digs d false 0 hd
    rw [show (false || decide ((43 : UInt8) = 45)) = false from rfl, h1, h3]; rfl
  · rw [List.cons_append, List.nil_append, readB_nodig (by decide)]
    obtain ⟨h1, -, h3⟩ := readB_digs d true 0 hd
    rw [show (false || decide ((45 : UInt8) = 45)) = true from rfl, h1, h3]; rfl
theorem readB_small : ∀ (l : List UInt8) (m : Bool) (n : Nat), n ≤ 100100 → (readB l m n).2 ≤ 100100
  | [], _, _, h => h
  | c :: l, m, n, h => by
    rw [readB_cons]
    apply readB_small
    split
    · rename_i e
      have := (isDig_iff c).1 e.1
      omega
    · exact h
/-- the body's digits -/
theorem body_digs {b d1 d2 : List UInt8} (h : IsBody b d1 d2) : (d1 ++ d2).all isDig = true ∧ d1 ++ d2 ≠ [] ∧ (d1 ++ d2).length ≤ b.length := by
  rcases h with ⟨rfl, rfl, h1, h2⟩ | ⟨rfl, h1, h2, h3⟩
  · rw [List.append_nil]; exact ⟨h1, h2, Nat.le_refl _⟩
  · refine ⟨by rw [List.all_append, h1, h2]; rfl, h3, by simp⟩
/-- what ahead of a body stands -/
theorem body_head {b d1 d2 : List UInt8} (h : IsBody b d1 d2) : ∃ c r, b = c :: r ∧ (isDig c = true ∨ c = 46) := by
  rcases h with ⟨rfl, rfl, h1, h2⟩ | ⟨rfl, h1, h2, h3⟩
  · cases b with
    | nil => exact absurd rfl h2
    | cons c r => rw [List.all_cons, Bool.and_eq_true] at h1; exact ⟨c, r, rfl, .inl h1.1⟩
  · cases d1 with
    | nil => exact ⟨46, d2, rfl, .inr rfl⟩
    | cons c r => rw [List.all_cons, Bool.and_eq_true] at h1; exact ⟨c, r ++ 46 :: d2, rfl, .inl h1.1⟩
theorem body_all {b d1 d2 : List UInt8} (h : IsBody b d1 d2) : ∀ c ∈ b, isDig c = true ∨ c = 46 := by
  rcases h with ⟨rfl, rfl, h1, h2⟩ | ⟨rfl, h1, h2, h3⟩
  · intro c hc; exact .inl (List.all_eq_true.1 h1 c hc)
  · intro c hc
    rcases List.mem_append.1 hc with hc | hc
    · exact .inl (List.all_eq_true.1 h1 c hc)
    · rcases List.mem_cons.1 hc with hc | hc
      · exact .inr hc
      · exact .inl (List.all_eq_true.1 h2 c hc)
end Go.Proofs.YtjjpdoabagnmoaaGreatDoor

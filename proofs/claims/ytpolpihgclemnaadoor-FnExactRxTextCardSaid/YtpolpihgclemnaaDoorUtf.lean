/-
  Plain facts on texts in UTF-8: the reference's own step (nx) is the model's decoder's wherever it takes a code point; the code points of a text (runes); a code point's bytes (ptBytes). No program here. No condition.
-/
import Derived.Test.YtpolpihgclemnaaDoorText
import Derived.Lib.ValidLaws
import Derived.Lib.RuneBytes
namespace Go.Proofs.YtpolpihgclemnaaDoor
open Go.Lib

/-- a lead byte of the reference: how many bytes, and what the number begins with; 0 of none -/
def leadL (b : Nat) : Nat × Nat :=
  if b < 128 then (1, b) else if 192 ≤ b ∧ b ≤ 223 then (2, b - 192) else if 224 ≤ b ∧ b ≤ 239 then (3, b - 224) else if 240 ≤ b ∧ b ≤ 247 then (4, b - 240) else (0, 0)
/-- the number behind so many further bytes -/
def accL (c0 : Nat) (l : List UInt8) : Nat → Nat
  | 0 => c0
  | k + 1 => 64 * accL c0 l k + (l.getD (k + 1) 0).toNat - 128
def isCont (l : List UInt8) (k : Nat) : Bool := decide (128 ≤ (l.getD k 0).toNat) && decide ((l.getD k 0).toNat ≤ 191)
def contsL (l : List UInt8) : Nat → Bool
  | 0 => true
  | k + 1 => contsL l k && isCont l (k + 1)
def ptLen (c : Nat) : Nat := if c < 128 then 1 else if c < 2048 then 2 else if c < 65536 then 3 else 4
/-- the reference's step: a code point and its bytes' number; (0, 0) of none -/
def nx (l : List UInt8) : Nat × Nat :=
  let n := (leadL (l.getD 0 0).toNat).1
  let c := accL (leadL (l.getD 0 0).toNat).2 l (n - 1)
  if n = 0 ∨ l.length < n then (0, 0) else if contsL l (n - 1) = false then (0, 0) else if isPt (c : Int) = true ∧ ptLen c = n then (c, n) else (0, 0)

theorem isCont_iff (l : List UInt8) (k : Nat) : isCont l k = true ↔ 128 ≤ (l.getD k 0).toNat ∧ (l.getD k 0).toNat ≤ 191 := by
  unfold isCont; simp

/-- the step, number by number -/
def nxN (n b0 b1 b2 b3 : Nat) : Nat × Nat :=
  if b0 < 128 then (if 1 ≤ b0 then (b0, 1) else (0, 0))
  else if 192 ≤ b0 ∧ b0 ≤ 223 then (if 2 ≤ n ∧ (128 ≤ b1 ∧ b1 ≤ 191) ∧ 128 ≤ 64 * (b0 - 192) + b1 - 128 then (64 * (b0 - 192) + b1 - 128, 2) else (0, 0))
  else if 224 ≤ b0 ∧ b0 ≤ 239 then
    (if 3 ≤ n ∧ (128 ≤ b1 ∧ b1 ≤ 191) ∧ (128 ≤ b2 ∧ b2 ≤ 191) ∧ 2048 ≤ 64 * (64 * (b0 - 224) + b1 - 128) + b2 - 128 ∧ ¬ (55296 ≤ 64 * (64 * (b0 - 224) + b1 - 128) + b2 - 128 ∧ 64 * (64 * (b0 - 224) + b1 - 128) + b2 - 128 ≤ 57343)
     then (64 * (64 * (b0 - 224) + b1 - 128) + b2 - 128, 3) else (0, 0))
  else if 240 ≤ b0 ∧ b0 ≤ 247 then
    (if 4 ≤ n ∧ (128 ≤ b1 ∧ b1 ≤ 191) ∧ (128 ≤ b2 ∧ b2 ≤ 191) ∧ (128 ≤ b3 ∧ b3 ≤ 191) ∧ 65536 ≤ 64 * (64 * (64 * (b0 - 240) + b1 - 128) + b2 - 128) + b3 - 128 ∧ 64 * (64 * (64 * (b0 - 240) + b1 - 128) + b2 - 128) + b3 - 128 ≤ 1114111
     then (64 * (64 * (64 * (b0 - 240) + b1 - 128) + b2 - 128) + b3 - 128, 4) else (0, 0))
  else (0, 0)

theorem ptLen_iff (c : Nat) : (ptLen c = 1 ↔ c < 128) ∧ (ptLen c = 2 ↔ 128 ≤ c ∧ c < 2048) ∧ (ptLen c = 3 ↔ 2048 ≤ c ∧ c < 65536) ∧ (ptLen c = 4 ↔ 65536 ≤ c) := by
  unfold ptLen
  by_cases h1 : c < 128
  · rw [if_pos h1]; omega
  by_cases h2 : c < 2048
  · rw [if_neg h1, if_pos h2]; omega
  by_cases h3 : c < 65536
  · rw [if_neg h1, if_neg h2, if_pos h3]; omega
  · rw [if_neg h1, if_neg h2, if_neg h3]; omega

theorem ite3 {α : Type} {A B C D : Prop} [Decidable A] [Decidable B] [Decidable C] [Decidable D] (x y : α) (h : D ↔ ¬ A ∧ ¬ B ∧ C) :
    (if A then y else if B then y else if C then x else y) = if D then x else y := by
  by_cases a : A
  · rw [if_pos a, if_neg (fun d => (h.1 d).1 a)]
  · rw [if_neg a]
    by_cases b : B
    · rw [if_pos b, if_neg (fun d => (h.1 d).2.1 b)]
    · rw [if_neg b]
      by_cases c : C
      · rw [if_pos c, if_pos (h.2 ⟨a, b, c⟩)]
      · rw [if_neg c, if_neg (fun d => c (h.1 d).2.2)]

theorem contsL_iff (l : List UInt8) (k : Nat) : (¬ contsL l (k + 1) = false) ↔ (¬ contsL l k = false) ∧ (128 ≤ (l.getD (k + 1) 0).toNat ∧ (l.getD (k + 1) 0).toNat ≤ 191) := by
  rw [← isCont_iff]
  show (¬ (contsL l k && isCont l (k + 1)) = false) ↔ _
  cases contsL l k <;> cases isCont l (k + 1) <;> simp

theorem nx_N (l : List UInt8) (hne : l ≠ []) : nx l = nxN l.length (l.getD 0 0).toNat (l.getD 1 0).toNat (l.getD 2 0).toNat (l.getD 3 0).toNat := by
  have hl : 0 < l.length := List.length_pos_iff.2 hne
  have k0 := (l.getD 0 0).toNat_lt
  have k1 := (l.getD 1 0).toNat_lt
  have k2 := (l.getD 2 0).toNat_lt
  have k3 := (l.getD 3 0).toNat_lt
  have hz : (¬ contsL l 0 = false) = True := by simp [contsL]
  unfold nx nxN leadL
  by_cases c1 : (l.getD 0 0).toNat < 128
  · rw [if_pos c1, if_pos c1]
    show (if 1 = 0 ∨ l.length < 1 then _ else if contsL l 0 = false then _ else if isPt (((l.getD 0 0).toNat : Nat) : Int) = true ∧ ptLen (l.getD 0 0).toNat = 1 then ((l.getD 0 0).toNat, 1) else (0, 0)) = _
    refine ite3 _ _ ?_
    rw [isPt_iff, (ptLen_iff _).1, hz]
    simp only [true_and]
    generalize (l.getD 0 0).toNat = b0 at *
    omega
  rw [if_neg c1, if_neg c1]
  by_cases c2 : 192 ≤ (l.getD 0 0).toNat ∧ (l.getD 0 0).toNat ≤ 223
  · rw [if_pos c2, if_pos c2]
    show (if 2 = 0 ∨ l.length < 2 then _ else if contsL l 1 = false then _ else if isPt ((64 * ((l.getD 0 0).toNat - 192) + (l.getD 1 0).toNat - 128 : Nat) : Int) = true ∧ ptLen (64 * ((l.getD 0 0).toNat - 192) + (l.getD 1 0).toNat - 128) = 2 then (64 * ((l.getD 0 0).toNat - 192) + (l.getD 1 0).toNat - 128, 2) else (0, 0)) = _
    refine ite3 _ _ ?_
    rw [isPt_iff, (ptLen_iff _).2.1, contsL_iff l 0, hz]
    simp only [true_and]
    generalize (l.getD 0 0).toNat = b0 at *
    generalize (l.getD (0 + 1) 0).toNat = b1 at *
    omega
  rw [if_neg c2, if_neg c2]
  by_cases c3 : 224 ≤ (l.getD 0 0).toNat ∧ (l.getD 0 0).toNat ≤ 239
  · rw [if_pos c3, if_pos c3]
    show (if 3 = 0 ∨ l.length < 3 then _ else if contsL l 2 = false then _ else if isPt ((64 * (64 * ((l.getD 0 0).toNat - 224) + (l.getD 1 0).toNat - 128) + (l.getD 2 0).toNat - 128 : Nat) : Int) = true ∧ ptLen (64 * (64 * ((l.getD 0 0).toNat - 224) + (l.getD 1 0).toNat - 128) + (l.getD 2 0).toNat - 128) = 3 then (64 * (64 * ((l.getD 0 0).toNat - 224) + (l.getD 1 0).toNat - 128) + (l.getD 2 0).toNat - 128, 3) else (0, 0)) = _
    refine ite3 _ _ ?_
    rw [isPt_iff, (ptLen_iff _).2.2.1, contsL_iff l 1, contsL_iff l 0, hz]
    simp only [true_and]
    generalize (l.getD 0 0).toNat = b0 at *
    generalize (l.getD (0 + 1) 0).toNat = b1 at *
    generalize (l.getD (1 + 1) 0).toNat = b2 at *
    omega
  rw [if_neg c3, if_neg c3]
  by_cases c4 : 240 ≤ (l.getD 0 0).toNat ∧ (l.getD 0 0).toNat ≤ 247
  · rw [if_pos c4, if_pos c4]
    show (if 4 = 0 ∨ l.length < 4 then _ else if contsL l 3 = false then _ else if isPt ((64 * (64 * (64 * ((l.getD 0 0).toNat - 240) + (l.getD 1 0).toNat - 128) + (l.getD 2 0).toNat - 128) + (l.getD 3 0).toNat - 128 : Nat) : Int) = true ∧ ptLen (64 * (64 * (64 * ((l.getD 0 0).toNat - 240) + (l.getD 1 0).toNat - 128) + (l.getD 2 0).toNat - 128) + (l.getD 3 0).toNat - 128) = 4 then (64 * (64 * (64 * ((l.getD 0 0).toNat - 240) + (l.getD 1 0).toNat - 128) + (l.getD 2 0).toNat - 128) + (l.getD 3 0).toNat - 128, 4) else (0, 0)) = _
    refine ite3 _ _ ?_
    rw [isPt_iff, (ptLen_iff _).2.2.2, contsL_iff l 2, contsL_iff l 1, contsL_iff l 0, hz]
    simp only [true_and]
    generalize (l.getD 0 0).toNat = b0 at *
    generalize (l.getD (0 + 1) 0).toNat = b1 at *
    generalize (l.getD (1 + 1) 0).toNat = b2 at *
    generalize (l.getD (2 + 1) 0).toNat = b3 at *
    omega
  · rw [if_neg c4, if_neg c4]
    rfl

theorem accL_lt (c0 : Nat) (l : List UInt8) (hc : c0 < 32) : ∀ k, contsL l k = true → accL c0 l k + 1 ≤ 32 * 64 ^ k
  | 0, _ => by show c0 + 1 ≤ 32 * 1; omega
  | k + 1, h => by
    have h' : (contsL l k && isCont l (k + 1)) = true := h
    rw [Bool.and_eq_true, isCont_iff] at h'
    have ih := accL_lt c0 l hc k h'.1
    show 64 * accL c0 l k + (l.getD (k + 1) 0).toNat - 128 + 1 ≤ _
    rw [Nat.pow_succ]
    omega
theorem accL_small {c0 : Nat} {l : List UInt8} {k : Nat} (hc : c0 < 32) (h : contsL l k = true) (hk : k ≤ 3) : accL c0 l k < 8388608 := by
  have h1 := accL_lt c0 l hc k h
  have h2 : 64 ^ k ≤ 64 ^ 3 := Nat.pow_le_pow_right (by omega) hk
  have h3 : 64 ^ 3 = 262144 := by simp
  rw [h3] at h2
  obtain ⟨p, hp⟩ : ∃ p, 64 ^ k = p := ⟨_, rfl⟩
  rw [hp] at h1 h2
  clear hp
  omega
theorem contsL_no {l : List UInt8} {j : Nat} (h1 : 1 ≤ j) (hc : isCont l j = false) : ∀ k, j ≤ k → contsL l k = false
  | 0, h => by omega
  | k + 1, h => by
    show (contsL l k && isCont l (k + 1)) = false
    by_cases e : j = k + 1
    · rw [← e, hc, Bool.and_false]
    · rw [contsL_no h1 hc k (by omega), Bool.false_and]
theorem contsL_succ {l : List UInt8} {k : Nat} (h : contsL l k = true) (hc : isCont l (k + 1) = true) : contsL l (k + 1) = true := by
  show (contsL l k && isCont l (k + 1)) = true
  rw [h, hc]; rfl
theorem nx_of {l : List UInt8} {n c0 : Nat} (hl : leadL (l.getD 0 0).toNat = (n, c0)) (hn : n ≠ 0) (hlen : n ≤ l.length) :
    nx l = if contsL l (n - 1) = false then (0, 0) else if isPt ((accL c0 l (n - 1) : Nat) : Int) = true ∧ ptLen (accL c0 l (n - 1)) = n then (accL c0 l (n - 1), n) else (0, 0) := by
  unfold nx; rw [hl]; show (if n = 0 ∨ l.length < n then _ else _) = _
  rw [if_neg (by omega)]
theorem nx_short {l : List UInt8} {n c0 : Nat} (hl : leadL (l.getD 0 0).toNat = (n, c0)) (hlen : n = 0 ∨ l.length < n) : nx l = (0, 0) := by
  unfold nx; rw [hl]; show (if n = 0 ∨ l.length < n then _ else _) = _
  rw [if_pos hlen]
theorem ptLen_cells {c : Nat} (h : isPt (c : Int) = true) : (runeCells (c : Int)).length = ptLen c := by
  rw [isPt_iff] at h
  unfold runeCells ptLen
  rw [List.length_map]
  by_cases c1 : c < 128
  · rw [if_pos c1, encodeRuneZ_one (by omega) (by omega)]; rfl
  by_cases c2 : c < 2048
  · rw [if_neg c1, if_pos c2, encodeRuneZ_two (by omega) (by omega)]; rfl
  by_cases c3 : c < 65536
  · rw [if_neg c1, if_neg c2, if_pos c3, encodeRuneZ_three (by omega)]; rfl
  · rw [if_neg c1, if_neg c2, if_neg c3, encodeRuneZ_four (by omega) (by omega)]; rfl

/-- THE STEP AGAINST THE MODEL's DECODER -/
theorem nxN_decode (n b0 b1 b2 b3 : Nat) (hn : 1 ≤ n) (k0 : b0 < 256) (k1 : b1 < 256) (k2 : b2 < 256) (k3 : b3 < 256) :
    (nxN n b0 b1 b2 b3 = (0, 0) ∧ (decodeN n b0 b1 b2 b3 = (65533, 1) ∨ b0 = 0)) ∨
    (nxN n b0 b1 b2 b3 = decodeN n b0 b1 b2 b3 ∧ 1 ≤ b0 ∧ ¬ ((decodeN n b0 b1 b2 b3).1 = 65533 ∧ (decodeN n b0 b1 b2 b3).2 = 1) ∧ isPt ((decodeN n b0 b1 b2 b3).1 : Int) = true ∧ (decodeN n b0 b1 b2 b3).2 ≤ n
      ∧ (2 ≤ (decodeN n b0 b1 b2 b3).2 → 128 ≤ b0 ∧ 128 ≤ b1) ∧ (3 ≤ (decodeN n b0 b1 b2 b3).2 → 128 ≤ b2) ∧ (4 ≤ (decodeN n b0 b1 b2 b3).2 → 128 ≤ b3) ∧ (decodeN n b0 b1 b2 b3).2 ≤ 4) := by
  rcases decodeN_shape n b0 b1 b2 b3 with ⟨c, e⟩ | ⟨c1, c2, c3, cv, e⟩ | ⟨c1, c2, c3, c4, cv, cs, e⟩ | ⟨c1, c2, c3, c4, c5, cv, cw, e⟩ | e
  · by_cases h0 : b0 = 0
    · left; subst h0; exact ⟨by simp [nxN], .inr rfl⟩
    · right
      rw [e]
      refine ⟨by unfold nxN; rw [if_pos c, if_pos (by omega)], by omega, by simp; omega, by rw [isPt_iff]; simp only []; omega, hn, fun h => by simp at h, fun h => by simp at h, fun h => by simp at h, by simp⟩
  · right
    rw [e]
    have ev : b0 % 32 * 64 + b1 % 64 = 64 * (b0 - 192) + b1 - 128 := by omega
    refine ⟨?_, by omega, by simp, by rw [isPt_iff]; simp only []; omega, by simp only []; omega, fun _ => by omega, fun h => by simp at h, fun h => by simp at h, by simp⟩
    unfold nxN
    rw [if_neg (by omega), if_pos (by omega), if_pos (by omega), ev]
  · right
    rw [e]
    have ev : b0 % 16 * 4096 + b1 % 64 * 64 + b2 % 64 = 64 * (64 * (b0 - 224) + b1 - 128) + b2 - 128 := by omega
    refine ⟨?_, by omega, by simp, by rw [isPt_iff]; simp only []; omega, by simp only []; omega, fun _ => by omega, fun _ => by omega, fun h => by simp at h, by simp⟩
    unfold nxN
    rw [if_neg (by omega), if_neg (by omega), if_pos (by omega), if_pos (by omega), ev]
  · right
    rw [e]
    have ev : b0 % 8 * 262144 + b1 % 64 * 4096 + b2 % 64 * 64 + b3 % 64 = 64 * (64 * (64 * (b0 - 240) + b1 - 128) + b2 - 128) + b3 - 128 := by omega
    refine ⟨?_, by omega, by simp, by rw [isPt_iff]; simp only []; omega, by simp only []; omega, fun _ => by omega, fun _ => by omega, fun _ => by omega, by simp⟩
    unfold nxN
    rw [if_neg (by omega), if_neg (by omega), if_neg (by omega), if_pos (by omega), if_pos (by omega), ev]
  · left
    refine ⟨?_, .inl e⟩
    unfold decodeN at e
    unfold nxN
    by_cases a1 : b0 < 128
    · rw [if_pos a1] at e; simp at e; omega
    rw [if_neg a1] at e ⊢
    by_cases a2 : 192 ≤ b0 ∧ b0 ≤ 223
    · rw [if_pos a2, if_neg]
      rintro ⟨h1, h2, h3⟩
      rw [if_pos (by omega), if_pos (by omega)] at e
      simp at e
    rw [if_neg a2]
    by_cases a3 : 224 ≤ b0 ∧ b0 ≤ 239
    · rw [if_pos a3, if_neg]
      rintro ⟨h1, h2, h3, h4, h5⟩
      rw [if_neg (by omega), if_pos (by omega), if_pos (by omega)] at e
      simp at e
    rw [if_neg a3]
    by_cases a4 : 240 ≤ b0 ∧ b0 ≤ 247
    · rw [if_pos a4, if_neg]
      rintro ⟨h1, h2, h3, h4, h5, h6⟩
      rw [if_neg (by omega), if_neg (by omega), if_pos (by omega), if_pos (by omega)] at e
      simp at e
    rw [if_neg a4]

theorem getD_mem_take {l : List UInt8} {x : UInt8} {n : Nat} (h : x ∈ l.take n) : ∃ j, j < n ∧ j < l.length ∧ l.getD j 0 = x := by
  obtain ⟨j, hj, e⟩ := List.getElem_of_mem h
  rw [List.length_take] at hj
  refine ⟨j, by omega, by omega, ?_⟩
  rw [List.getElem_take] at e
  rw [List.getD_eq_getElem?_getD, List.getElem?_eq_getElem (by omega)]
  exact e

/-- the step, of a list -/
theorem nx_decode (l : List UInt8) (hne : l ≠ []) :
    (nx l = (0, 0) ∧ (decodeL l = (65533, 1) ∨ l.getD 0 0 = 0)) ∨
    (nx l = decodeL l ∧ ¬ ((decodeL l).1 = 65533 ∧ (decodeL l).2 = 1) ∧ isPt ((decodeL l).1 : Int) = true ∧ 1 ≤ (decodeL l).2 ∧ (decodeL l).2 ≤ l.length ∧ (∀ x ∈ l.take (decodeL l).2, x ≠ 0)
      ∧ (2 ≤ (decodeL l).2 → ∀ x ∈ l.take (decodeL l).2, 128 ≤ x.toNat)) := by
  have hl : 0 < l.length := List.length_pos_iff.2 hne
  have hw := decodeL_width l
  rw [nx_N l hne]
  rw [decodeL_N] at hw ⊢
  rcases nxN_decode l.length (l.getD 0 0).toNat (l.getD 1 0).toNat (l.getD 2 0).toNat (l.getD 3 0).toNat hl (l.getD 0 0).toNat_lt (l.getD 1 0).toNat_lt (l.getD 2 0).toNat_lt (l.getD 3 0).toNat_lt with ⟨h1, h2⟩ | ⟨h1, h2, h3, h4, h5, h6, h7, h8, h9⟩
  · left
    refine ⟨h1, ?_⟩
    rcases h2 with h2 | h2
    · exact .inl h2
    · exact .inr (UInt8.toNat_inj.1 (by rw [h2]; rfl))
  · right
    refine ⟨h1, h3, h4, hw, h5, ?_, ?_⟩
    · intro x hx e
      obtain ⟨j, hj, hjl, ej⟩ := getD_mem_take hx
      rw [e] at ej
      have z : (0 : UInt8).toNat = 0 := rfl
      have hj4 : j = 0 ∨ j = 1 ∨ j = 2 ∨ j = 3 := by omega
      rcases hj4 with rfl | rfl | rfl | rfl
      · rw [ej, z] at h2; omega
      · have := (h6 (by omega)).2; rw [ej, z] at this; omega
      · have := h7 (by omega); rw [ej, z] at this; omega
      · have := h8 (by omega); rw [ej, z] at this; omega
    · intro h x hx
      obtain ⟨j, hj, hjl, ej⟩ := getD_mem_take hx
      have hj4 : j = 0 ∨ j = 1 ∨ j = 2 ∨ j = 3 := by omega
      rcases hj4 with rfl | rfl | rfl | rfl
      · rw [← ej]; exact (h6 h).1
      · rw [← ej]; exact (h6 h).2
      · rw [← ej]; exact h7 (by omega)
      · rw [← ej]; exact h8 (by omega)

/-- THE CODE POINTS OF A TEXT; none of what is no text -/
def runesF : Nat → List UInt8 → Option (List Nat)
  | 0, _ => some []
  | f + 1, l => if l = [] then some [] else if (nx l).2 = 0 then none else (runesF f (l.drop (nx l).2)).map ((nx l).1 :: ·)
def runes (l : List UInt8) : Option (List Nat) := runesF l.length l

theorem runesF_nil (f : Nat) : runesF f [] = some [] := by cases f <;> simp [runesF]
theorem runesF_fuel : ∀ (f g : Nat) (l : List UInt8), l.length ≤ f → l.length ≤ g → runesF f l = runesF g l
  | 0, g, l, h, _ => by
    have : l = [] := List.eq_nil_of_length_eq_zero (by omega)
    subst this; rw [runesF_nil, runesF_nil]
  | f + 1, 0, l, _, h => by
    have : l = [] := List.eq_nil_of_length_eq_zero (by omega)
    subst this; rw [runesF_nil, runesF_nil]
  | f + 1, g + 1, l, h, h' => by
    unfold runesF
    by_cases hne : l = []
    · rw [if_pos hne, if_pos hne]
    · rw [if_neg hne, if_neg hne]
      by_cases h0 : (nx l).2 = 0
      · rw [if_pos h0, if_pos h0]
      · rw [if_neg h0, if_neg h0, runesF_fuel f g (l.drop (nx l).2) (by rw [List.length_drop]; omega) (by rw [List.length_drop]; omega)]
theorem runes_nil : runes [] = some [] := rfl
theorem runes_step (l : List UInt8) (hne : l ≠ []) : runes l = if (nx l).2 = 0 then none else (runes (l.drop (nx l).2)).map ((nx l).1 :: ·) := by
  have hl : 0 < l.length := List.length_pos_iff.2 hne
  obtain ⟨n, hn⟩ : ∃ n, l.length = n + 1 := ⟨l.length - 1, by omega⟩
  unfold runes
  rw [hn]
  conv => lhs; unfold runesF
  rw [if_neg hne]
  by_cases h0 : (nx l).2 = 0
  · rw [if_pos h0, if_pos h0]
  · rw [if_neg h0, if_neg h0, runesF_fuel n (l.drop (nx l).2).length (l.drop (nx l).2) (by rw [List.length_drop]; omega) (Nat.le_refl _)]

/-- a text is one that the decoder takes, without a byte 0 -/
theorem runes_valid : ∀ (n : Nat) (l : List UInt8), l.length ≤ n → ((runes l).isSome = true ↔ validD l = true ∧ ∀ x ∈ l, x ≠ 0)
  | 0, l, h => by
    have : l = [] := List.eq_nil_of_length_eq_zero (by omega)
    subst this; simp [runes_nil, validD_nil]
  | n + 1, l, h => by
    by_cases hne : l = []
    · subst hne; simp [runes_nil, validD_nil]
    rw [runes_step l hne, validD_step l hne]
    rcases nx_decode l hne with ⟨h1, h2⟩ | ⟨h1, h2, h3, h4, h5, h6, _⟩
    · rw [h1]
      simp only [if_true]
      constructor
      · intro h; simp at h
      · rintro ⟨h3, h4⟩
        rcases h2 with h2 | h2
        · rw [h2] at h3; simp at h3
        · exact absurd h2 (h4 _ (by
            cases l with
            | nil => exact absurd rfl hne
            | cons a t => simp))
    · rw [h1, if_neg (by omega), if_neg h2]
      have ih := runes_valid n (l.drop (decodeL l).2) (by rw [List.length_drop]; omega)
      rw [Option.isSome_map, ih]
      constructor
      · rintro ⟨a, b⟩
        refine ⟨a, fun x hx => ?_⟩
        rw [← List.take_append_drop (decodeL l).2 l, List.mem_append] at hx
        rcases hx with hx | hx
        · exact h6 x hx
        · exact b x hx
      · rintro ⟨a, b⟩
        exact ⟨a, fun x hx => b x (List.mem_of_mem_drop hx)⟩

/-- a code point's bytes -/
def ptBytes (c : Nat) : List UInt8 := encodeRune (c : Int)

/-- a text's code points, step by step, are the decoder's; their bytes are the text -/
theorem runes_cons {l : List UInt8} {r : List Nat} (hne : l ≠ []) (h : runes l = some r) :
    ∃ t, r = (decodeL l).1 :: t ∧ runes (l.drop (decodeL l).2) = some t ∧ l.take (decodeL l).2 = ptBytes (decodeL l).1 ∧ 1 ≤ (decodeL l).2 ∧ (decodeL l).2 ≤ l.length ∧ isPt ((decodeL l).1 : Int) = true := by
  rw [runes_step l hne] at h
  rcases nx_decode l hne with ⟨h1, _⟩ | ⟨h1, h2, h3, h4, h5, _, _⟩
  · rw [h1] at h; simp at h
  · rw [h1, if_neg (by omega), Option.map_eq_some_iff] at h
    obtain ⟨t, ht, e⟩ := h
    exact ⟨t, e.symm, ht, (encode_decode l hne h2).symm, h4, h5, h3⟩

theorem runes_flat : ∀ (n : Nat) (l : List UInt8) (r : List Nat), l.length ≤ n → runes l = some r → l = r.flatMap ptBytes ∧ ∀ c ∈ r, isPt (c : Int) = true
  | 0, l, r, hn, h => by
    have : l = [] := List.eq_nil_of_length_eq_zero (by omega)
    subst this
    rw [runes_nil] at h
    simp at h; subst h; simp
  | n + 1, l, r, hn, h => by
    by_cases hne : l = []
    · subst hne
      rw [runes_nil] at h
      simp at h; subst h; simp
    obtain ⟨t, rfl, ht, hb, h1, h2, h3⟩ := runes_cons hne h
    obtain ⟨i1, i2⟩ := runes_flat n (l.drop (decodeL l).2) t (by rw [List.length_drop]; omega) ht
    refine ⟨?_, ?_⟩
    · rw [List.flatMap_cons, ← hb, ← i1, List.take_append_drop]
    · intro c hc
      rcases List.mem_cons.1 hc with rfl | hc
      · exact h3
      · exact i2 c hc
end Go.Proofs.YtpolpihgclemnaaDoor

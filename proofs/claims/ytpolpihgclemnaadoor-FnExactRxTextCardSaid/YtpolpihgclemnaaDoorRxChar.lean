/-
  A code point with what must stand ahead of it, in plain words, and the contracts of the program's charText and the reference's l01Text (of one) and l05Char. Conditions: the signs are ASCII.
-/
import Derived.Test.YtpolpihgclemnaaDoorIndexRune
import Derived.Test.YtpolpihgclemnaaDoorTxtAny
import Derived.Test.YtpolpihgclemnaaDoorBytes
import Derived.Test.YtpolpihgclemnaaDoorBetw
import Derived.Test.YtpolpihgclemnaaDoorOwns
import Derived.Test.YtpolpihgclemnaaDoorFill
import Derived.Laws.Cover4
namespace Go.Proofs.YtpolpihgclemnaaDoor
open Go.RowKit
open Go.Lib hiding intOf
set_option linter.unusedVariables false
set_option linter.unusedSimpArgs false

theorem encode_pt {c : Nat} (h : isPt (c : Int) = true) : Utf8.encode (c : Int) = ofL (ptBytes c) := by
  rw [isPt_iff] at h
  obtain ⟨h1, h2, h3⟩ := h
  have hv : Utf8.valid (c : Int) = true := by
    unfold Utf8.valid
    simp
    omega
  have e1 : (192 + (c : Int) / 64).toNat = 192 + c / 64 := by omega
  have e2 : (128 + (c : Int) % 64).toNat = 128 + c % 64 := by omega
  have e3 : (224 + (c : Int) / 4096).toNat = 224 + c / 4096 := by omega
  have e4 : (128 + (c : Int) / 64 % 64).toNat = 128 + c / 64 % 64 := by omega
  have e5 : (240 + (c : Int) / 262144).toNat = 240 + c / 262144 := by omega
  have e6 : (128 + (c : Int) / 4096 % 64).toNat = 128 + c / 4096 % 64 := by omega
  have e7 : ((c : Int)).toNat = c := by omega
  unfold Utf8.encode ptBytes Lib.encodeRune
  simp only [hv, if_true, e7]
  by_cases a1 : c < 128
  · rw [if_pos a1, encodeRuneZ_one (by omega) (by omega)]
    simp [ofL, e7]
  · rw [if_neg a1]
    by_cases a2 : c < 2048
    · rw [if_pos a2, encodeRuneZ_two (by omega) (by omega)]
      simp [ofL, e1, e2]
    · rw [if_neg a2]
      by_cases a3 : c < 65536
      · rw [if_pos a3, encodeRuneZ_three (by omega)]
        simp [ofL, e3, e4, e2]
      · rw [if_neg a3, encodeRuneZ_four (by omega) (by omega)]
        simp [ofL, e5, e6, e4, e2]
/-- the signs that want a backslash: outside brackets, inside -/
def sgnA : ByteArray := ⟨#[92, 94, 36, 46, 91, 124, 40, 41, 42, 43, 63, 123]⟩
def sgnB : ByteArray := ⟨#[92, 93, 91, 94, 45]⟩
theorem sgnA_asc : Asc sgnA := by
  intro j b h
  rcases j with _ | _ | _ | _ | _ | _ | _ | _ | _ | _ | _ | _ | j
  all_goals (simp [sgnA] at h; try (subst h; decide))
theorem sgnB_asc : Asc sgnB := by
  intro j b h
  rcases j with _ | _ | _ | _ | _ | j
  all_goals (simp [sgnB] at h; try (subst h; decide))
/-- is a number among the signs? -/
def inS (c : Int) (S : List UInt8) : Bool := S.any fun x => decide ((x.toNat : Int) = c)
/-- a code point with what stands ahead of it -/
def chB (c : Int) (S : List UInt8) : List UInt8 :=
  if c = 10 then [92, 110] else if c = 9 then [92, 116] else if c = 13 then [92, 114] else if inS c S = true then 92 :: ptBytes c.toNat else ptBytes c.toNat
theorem ptBytes_len (c : Nat) : 1 ≤ (ptBytes c).length ∧ (ptBytes c).length ≤ 4 := by
  unfold ptBytes Lib.encodeRune
  rw [List.length_map]
  unfold Lib.encodeRuneZ
  repeat' split
  all_goals simp
theorem chB_len (c : Int) (S : List UInt8) : 1 ≤ (chB c S).length ∧ (chB c S).length ≤ 5 := by
  have := ptBytes_len c.toNat
  unfold chB
  repeat' split
  all_goals (first | omega | (simp only [List.length_cons, List.length_nil]; omega))
theorem indexByte_in : ∀ (l : List UInt8) (c : UInt8), (0 ≤ Lib.indexByte l c) ↔ c ∈ l
  | [], c => by simp [Lib.indexByte]
  | x :: l, c => by
    have ih := indexByte_in l c
    by_cases h : x = c
    · subst h; simp [Lib.indexByte]
    · have hx : (x == c) = false := by rw [beq_eq_false_iff_ne]; exact h
      have hge := Lib.indexByte_ge l c
      rw [Lib.indexByte, hx]
      simp only [Bool.false_eq_true, if_false, List.mem_cons, Ne.symm h, false_or]
      rw [← ih]
      split
      · rename_i h2
        simp at h2
        omega
      · rename_i h2
        simp at h2
        omega
theorem idxR_in {s : ByteArray} (ha : Asc s) (c : Int) : decide (0 ≤ idxR s c) = inS c (bs s) := by
  rw [Bool.eq_iff_iff, decide_eq_true_eq]
  unfold inS
  rw [List.any_eq_true]
  have hasc : ∀ x ∈ bs s, x.toNat < 128 := by
    intro x hx
    obtain ⟨i, hi, e⟩ := List.getElem_of_mem hx
    exact ha i x (by rw [← e]; exact List.getElem?_eq_getElem hi)
  by_cases hc : 0 ≤ c ∧ c < 128
  · unfold idxR
    rw [if_pos hc, indexByte_in]
    constructor
    · intro h
      refine ⟨_, h, ?_⟩
      rw [decide_eq_true_eq]
      have : (c.toNat.toUInt8).toNat = c.toNat := by simp; omega
      rw [this]; omega
    · rintro ⟨x, hx, he⟩
      rw [decide_eq_true_eq] at he
      have : c.toNat.toUInt8 = x := UInt8.toNat_inj.1 (by simp; have := x.toNat_lt; omega)
      rw [this]; exact hx
  · rw [idxR_hi hc]
    constructor
    · intro h; omega
    · rintro ⟨x, hx, he⟩
      rw [decide_eq_true_eq] at he
      have := hasc x hx
      omega
/-- what the program's charText gives, at any number -/
noncomputable def chI (c : Int) (S : ByteArray) : ByteArray :=
  if c = 10 then ⟨#[92, 110]⟩ else if c = 9 then ⟨#[92, 116]⟩ else if c = 13 then ⟨#[92, 114]⟩ else if 0 ≤ idxR S (wrap32 c) then ⟨#[92]⟩ ++ Utf8.encode (wrap32 c) else Utf8.encode (wrap32 c)
theorem chI_pt {c : Int} {S : ByteArray} (h : isPt c = true) (ha : Asc S) : chI c S = ofL (chB c (bs S)) := by
  have hi := idxR_in ha c
  have hp := h
  rw [isPt_iff] at hp
  have hw : wrap32 c = c := by unfold wrap32; omega
  obtain ⟨n, rfl⟩ : ∃ n : Nat, c = (n : Int) := ⟨c.toNat, by omega⟩
  have hn : ((n : Int)).toNat = n := by omega
  unfold chI chB
  rw [hw, encode_pt h, hn]
  by_cases h1 : (n : Int) = 10
  · rw [if_pos h1, if_pos h1]; rfl
  rw [if_neg h1, if_neg h1]
  by_cases h2 : (n : Int) = 9
  · rw [if_pos h2, if_pos h2]; rfl
  rw [if_neg h2, if_neg h2]
  by_cases h3 : (n : Int) = 13
  · rw [if_pos h3, if_pos h3]; rfl
  rw [if_neg h3, if_neg h3]
  by_cases h4 : 0 ≤ idxR S (n : Int)
  · rw [if_pos h4, if_pos (by rw [← hi]; exact decide_eq_true h4)]
    exact bs_inj (by simp [bs, ofL])
  · rw [if_neg h4, if_neg (by rw [← hi]; simpa using h4)]
set_option maxRecDepth 20000 in
theorem charText_any (c : Int) (S : ByteArray) (w : World) (ha : Asc S) (h1 : 1 ≤ S.size) (hs : S.size ≤ 1000) :
    Calls Tryd.prog 29 #[.int .i64 c, .string S] w fun e w' => e = .returned (.string (chI c S)) ∧ Below w.heap.size w w' := by
  obtain ⟨d, hd⟩ : ∃ d, wrap32 c = d := ⟨_, rfl⟩
  have hdb : -2147483648 ≤ d ∧ d ≤ 2147483647 := by rw [← hd]; unfold wrap32; omega
  have HC := Lib.hid (containsRune_asc S d w ha h1 hs hdb.1 hdb.2)
  obtain ⟨v, hv⟩ : ∃ v, chI c S = v := ⟨_, rfl⟩
  have HV := Lib.hid hv
  rw [hv]
  have hez : (Utf8.encode d).size ≤ 4 := encode_size_le d
  clear hv ha h1 hs hdb
  by_cases c10 : c = 10
  · have HE : Hid ((⟨#[92, 110]⟩ : ByteArray) = v) := Lib.hid (by rw [← HV.out]; unfold chI; rw [if_pos c10])
    subst c10
    clear hd
    go_enter Tryd.func29, Tryd.ntmps29
    go_wp2
    go_ret
    rw [HE.out]
    exact ⟨rfl, Below.refl _ _⟩
  by_cases c9 : c = 9
  · have HE : Hid ((⟨#[92, 116]⟩ : ByteArray) = v) := Lib.hid (by rw [← HV.out]; unfold chI; rw [if_neg c10, if_pos c9])
    subst c9
    clear hd
    go_enter Tryd.func29, Tryd.ntmps29
    go_wp2
    go_ret
    rw [HE.out]
    exact ⟨rfl, Below.refl _ _⟩
  by_cases c13 : c = 13
  · have HE : Hid ((⟨#[92, 114]⟩ : ByteArray) = v) := Lib.hid (by rw [← HV.out]; unfold chI; rw [if_neg c10, if_neg c9, if_pos c13])
    subst c13
    clear hd
    go_enter Tryd.func29, Tryd.ntmps29
    go_wp2
    go_ret
    rw [HE.out]
    exact ⟨rfl, Below.refl _ _⟩
  have hkw : IntKind.i32.wrap c = d := by rw [IntKind.wrap_i32]; unfold wrap32 at hd; exact hd
  have e10 : (c == 10) = false := by rw [beq_eq_false_iff_ne]; exact c10
  have e9 : (c == 9) = false := by rw [beq_eq_false_iff_ne]; exact c9
  have e13 : (c == 13) = false := by rw [beq_eq_false_iff_ne]; exact c13
  by_cases hi : 0 ≤ idxR S d
  · have HE := Lib.hid (show (⟨#[92]⟩ : ByteArray) ++ Utf8.encode d = v by rw [← HV.out]; unfold chI; rw [if_neg c10, if_neg c9, if_neg c13, hd, if_pos hi])
    rw [show decide (0 ≤ idxR S d) = true from decide_eq_true hi] at HC
    clear hi hd
    go_enter Tryd.func29, Tryd.ntmps29
    go_wp2_with fail
    refine HC.out.mono ?_
    rintro e w1 ⟨rfl, hb⟩
    go_wp2
    go_ret
    rw [← HE.out]
    exact ⟨rfl, hb⟩
  · have HE := Lib.hid (show Utf8.encode d = v by rw [← HV.out]; unfold chI; rw [if_neg c10, if_neg c9, if_neg c13, hd, if_neg hi])
    rw [show decide (0 ≤ idxR S d) = false from decide_eq_false hi] at HC
    clear hi hd
    go_enter Tryd.func29, Tryd.ntmps29
    go_wp2_with fail
    refine HC.out.mono ?_
    rintro e w1 ⟨rfl, hb⟩
    go_wp2
    go_ret
    rw [← HE.out]
    exact ⟨rfl, hb⟩
end Go.Proofs.YtpolpihgclemnaaDoor

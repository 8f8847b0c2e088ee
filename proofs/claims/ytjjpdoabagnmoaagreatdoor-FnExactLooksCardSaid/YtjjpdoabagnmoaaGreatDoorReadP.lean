/-
  What the library's TrimLeft, IndexAny and Cut make of a number's text. No condition but the text's parts.
-/
import Derived.Test.YtjjpdoabagnmoaaGreatDoorReadL
import Derived.Test.YtjjpdoabagnmoaaGreatDoorAtoi
import Derived.Lib.IndexAny
import Derived.Lib.CutLaws
import Derived.Lib.SlTrimSet
import Derived.Shelf.Strings.SlTrimAscii
namespace Go.Proofs.YtjjpdoabagnmoaaGreatDoor
open Go.RowKit
set_option linter.unusedVariables false
set_option linter.unusedSimpArgs false

theorem trimLeft_sg {sg r : List UInt8} (h : IsSg sg) (hr : ∀ c t, r = c :: t → c ≠ 43 ∧ c ≠ 45) : Lib.trimLeftS (sg ++ r) [43, 45] = r := by
  have h0 : Lib.trimLeftS r [43, 45] = r := by
    cases r with
    | nil => rfl
    | cons c t =>
      obtain ⟨h1, h2⟩ := hr c t rfl
      unfold Lib.trimLeftS
      rw [List.dropWhile_cons_of_neg (by simp [h1, h2])]
  rcases h with rfl | rfl | rfl
  · exact h0
  · unfold Lib.trimLeftS at h0 ⊢
    rw [List.cons_append, List.nil_append, List.dropWhile_cons_of_pos (by decide)]; exact h0
  · unfold Lib.trimLeftS at h0 ⊢
    rw [List.cons_append, List.nil_append, List.dropWhile_cons_of_pos (by decide)]; exact h0
theorem head_body {b d1 d2 : List UInt8} (h : IsBody b d1 d2) (r : List UInt8) : ∀ c t, b ++ r = c :: t → c ≠ 43 ∧ c ≠ 45 := by
  obtain ⟨c, t, rfl, hc⟩ := body_head h
  intro x y e
  simp only [List.cons_append, List.cons.injEq] at e
  rw [← e.1]
  rcases hc with hc | rfl
  · refine ⟨?_, ?_⟩ <;> (rintro rfl; exact absurd hc (by decide))
  · decide
theorem head_digs {d : List UInt8} (h : d.all isDig = true) : ∀ c t, d = c :: t → c ≠ 43 ∧ c ≠ 45 := by
  rintro c t rfl
  rw [List.all_cons, Bool.and_eq_true] at h
  refine ⟨?_, ?_⟩ <;> (rintro rfl; exact absurd h.1 (by decide))
theorem noAny_body {b d1 d2 : List UInt8} (h : IsBody b d1 d2) (r : List UInt8) : Lib.NoAny (b ++ r) [101, 69] b.length := by
  intro j c hj hc
  rw [List.getElem?_append_left hj] at hc
  have := body_all h c (List.mem_of_getElem? hc)
  rcases this with hd | rfl
  · obtain ⟨h1, h2⟩ := dig_not hd
    simp only [List.contains_cons, List.contains_nil, Bool.or_false, Bool.or_eq_false_iff, beq_eq_false_iff_ne]
    exact ⟨fun e => h1 (.inl e), fun e => h1 (.inr e)⟩
  · rfl
theorem anyE_none {b d1 d2 : List UInt8} (h : IsBody b d1 d2) : Lib.indexAny b [101, 69] = -1 := by
  apply Lib.indexAny_none
  have := noAny_body h []
  rwa [List.append_nil] at this
theorem anyE_at {b d1 d2 r : List UInt8} {c : UInt8} (h : IsBody b d1 d2) (hc : c = 101 ∨ c = 69) : Lib.indexAny (b ++ c :: r) [101, 69] = (b.length : Int) :=
  Lib.indexAny_hit (noAny_body h _) (x := c) (by rw [List.getElem?_append_right (Nat.le_refl _)]; simp) (by rcases hc with rfl | rfl <;> decide)
theorem index_dot : ∀ (d1 d2 : List UInt8), d1.all isDig = true → Lib.index (d1 ++ 46 :: d2) [46] = (d1.length : Int)
  | [], d2, _ => by
    rw [List.nil_append, Lib.index, if_pos (by simp)]; rfl
  | c :: d1, d2, h => by
    rw [List.all_cons, Bool.and_eq_true] at h
    have ih := index_dot d1 d2 h.2
    have hc := (dig_not h.1).2
    rw [List.cons_append, Lib.index, if_neg (by simp; exact fun e => hc e.symm), ih, if_neg (by simp; try omega)]
    simp
theorem index_nodot : ∀ (d : List UInt8), d.all isDig = true → Lib.index d [46] = -1
  | [], _ => rfl
  | c :: d, h => by
    rw [List.all_cons, Bool.and_eq_true] at h
    have ih := index_nodot d h.2
    have hc := (dig_not h.1).2
    rw [Lib.index, if_neg (by simp; exact fun e => hc e.symm), ih, if_pos (by decide)]
theorem cut_body {b d1 d2 : List UInt8} (h : IsBody b d1 d2) : (Lib.cut b [46]).1 = d1 ∧ (Lib.cut b [46]).2.1 = d2 := by
  rcases h with ⟨rfl, rfl, h1, h2⟩ | ⟨rfl, h1, h2, h3⟩
  · unfold Lib.cut
    rw [index_nodot _ h1, if_neg (by decide)]
    exact ⟨rfl, rfl⟩
  · unfold Lib.cut
    rw [index_dot _ _ h1, if_pos (by omega), Int.toNat_natCast]
    refine ⟨by simp, ?_⟩
    simp only [List.length_cons, List.length_nil]
    rw [List.drop_append]
    simp
theorem dig_ascii {c : UInt8} (h : isDig c = true) : c.toNat < 128 := by
  have := (isDig_iff c).1 h; omega
/-- every byte of a number's text is ASCII -/
theorem ascii_body {b d1 d2 : List UInt8} (h : IsBody b d1 d2) : ∀ c ∈ b, c.toNat < 128 := by
  intro c hc
  rcases body_all h c hc with hd | rfl
  · exact dig_ascii hd
  · decide
theorem ascii_ex {ex sg d : List UInt8} (h : IsEx ex sg d) : ∀ c ∈ ex, c.toNat < 128 := by
  rcases h with ⟨rfl, -⟩ | ⟨e, he, rfl, hs, hd, -⟩
  · intro c hc; simp at hc
  · intro c hc
    rcases List.mem_cons.1 hc with rfl | hc
    · rcases he with rfl | rfl <;> decide
    · rcases List.mem_append.1 hc with hc | hc
      · rcases hs with rfl | rfl | rfl
        · simp at hc
        · simp at hc; rw [hc]; decide
        · simp at hc; rw [hc]; decide
      · exact dig_ascii (List.all_eq_true.1 hd c hc)
theorem ascii_both {b d1 d2 ex sg d : List UInt8} (hb : IsBody b d1 d2) (he : IsEx ex sg d) : ∀ (j : Nat) c, (b ++ ex)[j]? = some c → c.toNat < 128 := by
  intro j c h
  rcases List.mem_append.1 (List.mem_of_getElem? h) with h | h
  · exact ascii_body hb c h
  · exact ascii_ex he c h
end Go.Proofs.YtjjpdoabagnmoaaGreatDoor

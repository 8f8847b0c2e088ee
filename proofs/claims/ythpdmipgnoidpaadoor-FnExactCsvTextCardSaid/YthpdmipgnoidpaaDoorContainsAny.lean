/-
  The contract of strings.ContainsAny at a text and ASCII bytes. Conditions: the text is a text; at least two bytes are asked for.
-/
import Derived.Test.YthpdmipgnoidpaaDoorIndexRune
import Derived.Test.YthpdmipgnoidpaaDoorCodes
import Derived.Test.YthpdmipgnoidpaaDoorRowTxt
import Derived.Deep.WholeRow
import Derived.Lib.TrimUEq
namespace Go.Proofs.YthpdmipgnoidpaaDoor
open Go.RowKit
open Go.Lib hiding intOf
set_option linter.unusedVariables false
set_option linter.unusedSimpArgs false

/-- stands one of the bytes in the text? -/
def anyB (s chars : ByteArray) : Bool := (bs s).any fun x => (bs chars).contains x
theorem indexAny_any (chars : List UInt8) : ∀ l : List UInt8, decide (0 ≤ Lib.indexAny l chars) = l.any fun x => chars.contains x
  | [] => by rfl
  | x :: l => by
    have ih := indexAny_any chars l
    have h1 := Lib.indexAny_ge chars l
    rw [List.any_cons, ← ih, Lib.indexAny]
    cases hc : chars.contains x
    · by_cases h2 : Lib.indexAny l chars = -1
      · rw [h2]; rfl
      · have h3 : (Lib.indexAny l chars == -1) = false := by rw [beq_eq_false_iff_ne]; exact h2
        rw [h3]
        simp
        omega
    · simp
/-- what IndexAny leaves -/
def AnyPost (w : World) (b : Bool) (e : Ending) (w' : World) : Prop := ∃ v : Int, e = .returned (.int .i64 v) ∧ decide (0 ≤ v) = b ∧ Below w.heap.size w w'
/-- a code point behind a place: none of its bytes is asked for, or it is one of them -/
theorem point_any {l : List UInt8} {chars : ByteArray} {c n : Nat} (hA : Asc chars) (hp : isPt (c : Int) = true) (ht : l.take n = ptBytes c) (x : UInt8) (hx : x ∈ l.take n) :
    (bs chars).contains x = decide (0 ≤ idxR chars (c : Int)) := by
  rw [ht] at hx
  by_cases h : c < 128
  · rw [ptBytes_one h] at hx
    simp at hx
    subst hx
    unfold idxR
    rw [if_pos ⟨by omega, by omega⟩]
    have e : ((c : Int)).toNat.toUInt8 = c.toUInt8 := by rw [show ((c : Int)).toNat = c by omega]
    rw [e]
    exact Lib.contains_iff_indexByte _ _
  · rw [idxR_hi (by omega)]
    obtain ⟨k, hk, e⟩ := List.getElem_of_mem hx
    have h1 := (ptBytes_mid hp k x (by rw [← e]; exact List.getElem?_eq_getElem hk)).2 (by omega)
    have h2 : (bs chars).contains x = false := by
      rw [List.contains_eq_mem, decide_eq_false_iff_not]
      intro hm
      obtain ⟨j, hj, e2⟩ := List.getElem_of_mem hm
      have := hA j x (by rw [← e2]; exact List.getElem?_eq_getElem hj)
      omega
    rw [h2]
    rfl
set_option maxRecDepth 20000 in
set_option maxHeartbeats 2000000 in
theorem indexAny_txt (s chars : ByteArray) (w : World) (hv : okT (bs s) = true) (hA : Asc chars) (h2 : 2 ≤ chars.size) (hc : chars.size ≤ 1000) :
    Calls Tryd.prog 123 #[.string s, .string chars] w (AnyPost w (anyB s chars)) := by
  have hs := okT_len hv
  by_cases h8 : 8 < s.size
  · refine (Tryd.strings_IndexAny_long (zero_of_info (n := 256) (by kernel_rfl)).1 s chars w h2 h8 (by omega) (by omega) hA).mono ?_
    rintro e w' ⟨rfl, rfl⟩
    exact ⟨_, rfl, indexAny_any _ _, ((Below.refl _ _).alloc (Nat.le_refl _) _).alloc (by simp) _⟩
  have hne := isEmpty_no (s := chars) (by omega)
  have hn1 : ((chars.size : Int) == 1) = false := by rw [beq_eq_false_iff_ne]; omega
  have HS8 := Lib.hid (fun W => Tryd.strings_shouldUseASCIISet (s.size : Int) W)
  have hd8 : decide ((8 : Int) < (s.size : Int)) = false := by rw [decide_eq_false_iff_not]; omega
  rw [hd8] at HS8
  have HIR := Lib.hid (fun (c : Nat) (h : c ≤ 1114111) W => indexRune_asc chars (c : Int) W hA (by omega) hc (by omega) (by omega))
  have HA := Lib.hid hA
  have hrs : (runes (bs s)).isSome = true := by
    unfold okT textRunes at hv
    split at hv
    · cases hv
    · exact hv
  have HRS := Lib.hid hrs
  clear hv hA hd8 hrs
  go_enter Tryd.func123, Tryd.ntmps123
  go_wp2_with (go_at_call 140; refine (HS8.out _).mono ?_; rintro e w2 ⟨rfl, hw2⟩; obtain rfl := hw2.symm)
  go_loopw [46] (fun _ wr => ∃ (pos : Nat), pos ≤ s.size ∧ wr.heap[w.heap.size]? = some (.stringIter s pos) ∧ Below w.heap.size w wr ∧ (runes ((bs s).drop pos)).isSome = true ∧ ∀ x ∈ (bs s).take pos, (bs chars).contains x = false) (fun _ wr => s.size - wr.iterPos w.heap.size)
  case atStart => exact ⟨0, Nat.zero_le _, World.iter_heap w s 0, below_iter w s 0 (Nat.le_refl _), HRS.out, fun x hx => by simp at hx⟩
  case round =>
    obtain ⟨pos, hp, hit, hb, hru, hno⟩ := hrel
    have HB := Lib.hid hb
    have HIT := Lib.hid hit
    have HNO := Lib.hid hno
    have hszr : w.heap.size < wr.heap.size := (Array.getElem?_eq_some_iff.1 hit).1
    clear hb hno
    by_cases hlt : pos < s.size
    · have hnx : ∀ ty, (Instr.next (.pointer (some ⟨w.heap.size, 0, none⟩)) true ty).run Tryd.prog wr = _ := fun ty => Lib.run_next_any_at wr w.heap.size s pos ty hit hlt
      have hnel : (bs s).drop pos ≠ [] := by
        intro e
        have := congrArg List.length e
        rw [List.length_drop, bs_length] at this
        simp at this; omega
      obtain ⟨t0, ht0⟩ := Option.isSome_iff_exists.1 hru
      obtain ⟨t, e1, e2, e3, e4, e5, e6⟩ := runes_cons hnel ht0
      have hdec : decodeL ((bs s).drop pos) = Utf8.decode s pos := decodeL_drop s pos
      rw [hdec] at e1 e2 e3 e4 e5 e6
      rw [List.length_drop, bs_length] at e5
      obtain ⟨c, hc2⟩ : ∃ c, (Utf8.decode s pos).1 = c := ⟨_, rfl⟩
      obtain ⟨n, hn⟩ : ∃ n, (Utf8.decode s pos).2 = n := ⟨_, rfl⟩
      rw [hc2, hn] at hnx
      rw [hc2] at e3 e6
      rw [hn] at e2 e3 e4 e5
      have hc3 : c ≤ 1114111 := by rw [isPt_iff] at e6; omega
      have HPA := Lib.hid (fun x hx => point_any HA.out e6 e3 x hx)
      have HIT2 := Lib.hid (Lib.iterAt_heap wr w.heap.size s pos (pos + n) hit)
      have HB2 := Lib.hid (Lib.below_iterAt HB.out (k := w.heap.size) (Nat.le_refl _) s (pos + n))
      have HRU2 : Hid ((runes ((bs s).drop (pos + n))).isSome = true) := Lib.hid (by rw [← List.drop_drop, e2]; rfl)
      have HIRC := Lib.hid (HIR.out c hc3)
      obtain ⟨v, hvv⟩ : ∃ v, idxR chars (c : Int) = v := ⟨_, rfl⟩
      rw [hvv] at HIRC HPA
      have hsz2 : w.heap.size < (wr.iterAt w.heap.size s (pos + n)).heap.size := by rw [Lib.iterAt_size]; exact hszr
      have HE4 := Lib.hid (show ∃ x, x ∈ ((bs s).drop pos).take n ∧ x ∈ bs s from by
        have h1 : 0 < (((bs s).drop pos).take n).length := by rw [List.length_take, List.length_drop, bs_length]; omega
        exact ⟨_, List.getElem_mem h1, List.mem_of_mem_drop (List.mem_of_mem_take (List.getElem_mem h1))⟩)
      have hposI : (0 : Int) ≤ pos := by omega
      clear e1 e2 e3 e6 ht0 hru hdec hc2 hn hnel hit hvv
      generalize hw2 : wr.iterAt w.heap.size s (pos + n) = w2 at *
      have HW2 := Lib.hid hw2
      clear hw2
      go_wp2_with fail
      refine (HIRC.out _).mono ?_
      rintro e w3 ⟨rfl, hb3⟩
      have HB3 := Lib.hid (HB2.out.trans (hb3.mono HB2.out.size))
      have HIT3 : Hid (w3.heap[w.heap.size]? = some (.stringIter s (pos + n))) := Lib.hid (by rw [hb3.block w.heap.size hsz2]; exact HIT2.out)
      clear hb3
      by_cases hv0 : 0 ≤ v
      · have HT : Hid (anyB s chars = true) := Lib.hid (by
          obtain ⟨x, hx1, hx2⟩ := HE4.out
          unfold anyB
          rw [List.any_eq_true]
          exact ⟨x, hx2, by rw [HPA.out x hx1]; exact decide_eq_true hv0⟩)
        go_wp2
        go_ret
        refine ⟨(pos : Int), rfl, ?_, HB3.out⟩
        rw [HT.out]
        exact decide_eq_true hposI
      · have HN : Hid (∀ x ∈ (bs s).take (pos + n), (bs chars).contains x = false) := Lib.hid (fun x hx => by
          rw [List.take_add] at hx
          rcases List.mem_append.1 hx with h | h
          · exact HNO.out x h
          · rw [HPA.out x h]; exact decide_eq_false hv0)
        go_wp2
        refine ⟨⟨pos + n, by omega, HIT3.out, HB3.out, HRU2.out, HN.out⟩, ?_⟩
        simp only [World.iterPos, HIT3.out, HIT.out]; omega
    · obtain rfl : pos = s.size := by omega
      have hnx : ∀ ty, (Instr.next (.pointer (some ⟨w.heap.size, 0, none⟩)) true ty).run Tryd.prog wr = _ := fun ty => Lib.run_next_end_at wr w.heap.size s s.size ty hit hlt
      have HF : Hid (anyB s chars = false) := Lib.hid (by
        unfold anyB
        rw [List.any_eq_false]
        intro x hx
        have := HNO.out x (by rw [take_all]; exact hx)
        rw [this]; simp)
      go_wp2
      go_ret
      refine ⟨-1, rfl, ?_, HB.out⟩
      rw [HF.out]
      rfl
theorem containsAny_txt (s chars : ByteArray) (w : World) (hv : okT (bs s) = true) (hA : Asc chars) (h2 : 2 ≤ chars.size) (hc : chars.size ≤ 1000) :
    Calls Tryd.prog 97 #[.string s, .string chars] w fun e w' => e = .returned (.bool (anyB s chars)) ∧ Below w.heap.size w w' := by
  have HI := Lib.hid (indexAny_txt s chars w hv hA h2 hc)
  clear hv hA h2 hc
  go_enter Tryd.func97, Tryd.ntmps97
  go_wp2_with fail
  refine HI.out.mono ?_
  rintro e w1 ⟨v, rfl, hvv, hb⟩
  go_wp2
  go_ret
  rw [← hvv]
  exact ⟨rfl, hb⟩
end Go.Proofs.YthpdmipgnoidpaaDoor

/-
  The contracts of strings.IndexRune and ContainsRune on a string of ASCII bytes, at any rune. Conditions: the string is not empty and short; the rune is of its kind.
-/
import Derived.Test.YtpolpihgclemnaaDoorShelf
import Derived.Test.YtpolpihgclemnaaDoorText
import Derived.Test.YtpolpihgclemnaaDoorRunes
import Derived.Lib.OthersKept
import Derived.Laws.Runes
import Derived.WalkMore
import Derived.ScopeJumps
namespace Go.Proofs.YtpolpihgclemnaaDoor
open Go.RowKit
open Go.Lib hiding intOf
set_option linter.unusedVariables false
set_option linter.unusedSimpArgs false

theorem quiet_again2 {P : Program} {f : FuncId} {args : Array Value} {w : World} {v : Value} {a : Nat} (h : ∀ W, Calls P f args W fun e w' => e = .returned v ∧ w' = W) (b : Nat) : Calls P f args (w.drewN (a + b)) fun e w'' => e = .returned v ∧ ∃ n, w'' = w.drewN (a + n) := (h _).mono fun _ _ h => ⟨h.1, b, h.2⟩
/-- all bytes are ASCII -/
def Asc (s : ByteArray) : Prop := ∀ (j : Nat) b, s.data.toList[j]? = some b → b.toNat < 128
theorem Asc.at {s : ByteArray} (h : Asc s) (k : Nat) (hk : k < s.size) : s[k].toNat < 128 := by
  refine h k s[k] ?_
  have : (bs s)[k]? = some s[k] := by rw [List.getElem?_eq_getElem (by rw [bs_length]; exact hk), bs_get s k hk]
  exact this
/-- where a rune stands among ASCII bytes -/
def idxR (s : ByteArray) (r : Int) : Int := if 0 ≤ r ∧ r < 128 then Lib.indexByte (bs s) r.toNat.toUInt8 else -1
theorem idxR_hi {s : ByteArray} {r : Int} (h : ¬ (0 ≤ r ∧ r < 128)) : idxR s r = -1 := by unfold idxR; rw [if_neg h]
theorem indexByte_absent (l : List UInt8) (c : UInt8) (h : c ∉ l) : Lib.indexByte l c = -1 := by
  induction l with
  | nil => rfl
  | cons x l ih =>
    simp at h
    have hx : (x == c) = false := by rw [beq_eq_false_iff_ne]; exact fun e => h.1 e.symm
    rw [Lib.indexByte, hx, ih h.2]
    rfl

set_option maxRecDepth 100000 in
set_option maxHeartbeats 2000000 in
theorem indexRune_asc (s : ByteArray) (r : Int) (w : World) (ha : Asc s) (h1 : 1 ≤ s.size) (hs : s.size ≤ 1000) (hr0 : -2147483648 ≤ r) (hr1 : r ≤ 2147483647) :
    Calls Tryd.prog 45 #[.string s, .int .i32 r] w fun e w' => e = .returned (.int .i64 (idxR s r)) ∧ Below w.heap.size w w' := by
  by_cases hA : 0 ≤ r ∧ r < 128
  · refine (Tryd.strings_IndexRune_ascii s r w hA.1 hA.2).mono ?_
    rintro e w' ⟨rfl, rfl⟩
    unfold idxR
    rw [if_pos hA]
    exact ⟨rfl, Below.refl _ _⟩
  rw [idxR_hi hA]
  have HA := Lib.hid ha
  clear ha
  by_cases hB : r = 65533
  · subst hB
    clear hA hr0 hr1
    go_enter Tryd.func45, Tryd.ntmps45
    go_wp2
    go_loopw [176] (fun _ wr => ∃ (pos : Nat), pos ≤ s.size ∧ wr.heap[w.heap.size]? = some (.stringIter s pos) ∧ Below w.heap.size w wr) (fun _ wr => s.size - wr.iterPos w.heap.size)
    case atStart => exact ⟨0, Nat.zero_le _, World.iter_heap w s 0, below_iter w s 0 (Nat.le_refl _)⟩
    case round =>
      obtain ⟨pos, hp, hit, hb⟩ := hrel
      have HB := Lib.hid hb
      have HIT := Lib.hid hit
      have hszr : w.heap.size < wr.heap.size := (Array.getElem?_eq_some_iff.1 hit).1
      clear hb
      by_cases hlt : pos < s.size
      · have hasc := HA.out.at pos hlt
        have hnx : ∀ ty, (Instr.next (.pointer (some ⟨w.heap.size, 0, none⟩)) true ty).run Tryd.prog wr = _ := fun ty => Lib.run_next_ascii_at wr w.heap.size s pos ty hit hlt hasc
        have hne : ((s[pos].toNat : Int) == 65533) = false := by rw [beq_eq_false_iff_ne]; omega
        have HIT2 := Lib.hid (Lib.iterAt_heap wr w.heap.size s pos (pos + 1) hit)
        have HB2 := Lib.hid (Lib.below_iterAt HB.out (k := w.heap.size) (Nat.le_refl _) s (pos + 1))
        clear hit hasc
        go_wp2
        refine ⟨⟨pos + 1, by omega, HIT2.out, HB2.out⟩, ?_⟩
        simp only [World.iterPos, HIT2.out, HIT.out]; omega
      · obtain rfl : pos = s.size := by omega
        have hnx : ∀ ty, (Instr.next (.pointer (some ⟨w.heap.size, 0, none⟩)) true ty).run Tryd.prog wr = _ := fun ty => Lib.run_next_end_at wr w.heap.size s s.size ty hit hlt
        go_wp2
        go_ret
        exact ⟨rfl, HB.out⟩
  have hbB : (r == 65533) = false := by rw [beq_eq_false_iff_ne]; exact hB
  have hdA : (decide (0 ≤ r) && decide (r < 128)) = false := by
    rw [Bool.and_eq_false_iff, decide_eq_false_iff_not, decide_eq_false_iff_not]; omega
  by_cases h0 : r < 0
  · have hV := Tryd.utf8_ValidRune r w
    have hv : Lib.validRune r = false := by unfold Lib.validRune; rw [decide_eq_false_iff_not]; omega
    rw [hv] at hV
    have HV := Lib.hid hV
    clear hV hv hA hB hdA
    go_enter Tryd.func45, Tryd.ntmps45
    go_wp2_with (go_at_call 52; refine HV.out.mono ?_; rintro e w2 ⟨rfl, hw2⟩; obtain rfl := hw2.symm)
    go_ret
    exact ⟨rfl, Below.refl _ _⟩
  have h128 : 128 ≤ r := by omega
  cases hv : Lib.validRune r
  · have hV := Tryd.utf8_ValidRune r w
    rw [hv] at hV
    have HV := Lib.hid hV
    clear hV hv hA hB hdA
    go_enter Tryd.func45, Tryd.ntmps45
    go_wp2_with (go_at_call 52; refine HV.out.mono ?_; rintro e w2 ⟨rfl, hw2⟩; obtain rfl := hw2.symm)
    go_ret
    exact ⟨rfl, Below.refl _ _⟩
  · have hV := Tryd.utf8_ValidRune r w
    rw [hv] at hV
    have HV := Lib.hid hV
    have hvalid : Utf8.valid r = true := by
      unfold Lib.validRune at hv
      rw [decide_eq_true_eq] at hv
      unfold Utf8.valid
      simp
      omega
    obtain ⟨f1, f2, f3⟩ := encode_facts r hvalid h128
    obtain ⟨t, ht⟩ : ∃ t, Utf8.encode r = t := ⟨_, rfl⟩
    rw [ht] at f1 f2 f3
    have hlast := f3 (by omega)
    have hlt : t.size - 1 < t.size := by omega
    obtain ⟨n, hn⟩ : ∃ n, t.size - 1 = n := ⟨_, rfl⟩
    have hnt : n < t.size := by omega
    have hln : 128 ≤ t[n].toNat := by
      have := hlast
      simp only [hn] at this
      exact this
    have hab : Lib.indexByte (bs (s.extract (n + 1) s.size)) t[n] = -1 := by
      refine indexByte_absent _ _ (fun hm => ?_)
      have hm2 : t[n] ∈ bs s := by
        have e : bs (s.extract (n + 1) s.size) = ((bs s).take s.size).drop (n + 1) := by
          show (s.extract (n + 1) s.size).data.toList = _
          rw [Lib.extract_data]; simp [bs, List.drop_take]
        rw [e] at hm
        exact List.mem_of_mem_take (List.mem_of_mem_drop hm)
      obtain ⟨j, hj, e⟩ := List.getElem_of_mem hm2
      have := HA.out j t[n] (by rw [← e]; exact List.getElem?_eq_getElem hj)
      omega
    have HIX := Lib.hid (fun W => Tryd.strings_IndexByte (s.extract (n + 1) s.size) (t[n].toNat : Int) W)
    have hix2 : Lib.indexByte (s.extract (n + 1) s.size).data.toList ((t[n].toNat : Int)).toNat.toUInt8 = -1 := by
      rw [show ((t[n].toNat : Int)).toNat.toUInt8 = t[n] by
        have h : ((t[n].toNat : Int)).toNat = t[n].toNat := by omega
        rw [h]; simp]
      exact hab
    rw [hix2] at HIX
    have hnI : (t.size : Int) - 1 = (n : Int) := by omega
    have x1 : IntKind.i64.wrap ((n : Int) + 1) = (n : Int) + 1 := IntWalk.i64_in _ (by omega)
    have x2 : ((n : Int) + 1).toNat = n + 1 := by omega
    have hntI : (n : Int) < t.size := by omega
    clear hV hv hA hB hdA hvalid f3 hlast hab hix2 hn hlt
    by_cases hns : n < s.size
    · have hasc := HA.out.at n hns
      have hne : ((s[n].toNat : Int) != (t[n].toNat : Int)) = true := by rw [bne_iff_ne]; omega
      have hnsI : (n : Int) < s.size := by omega
      have hnsI2 : (n : Int) + 1 ≤ s.size := by omega
      go_enter Tryd.func45, Tryd.ntmps45
      go_wp2_with (go_at_call 52; refine HV.out.mono ?_; rintro e w2 ⟨rfl, hw2⟩; obtain rfl := hw2.symm)
      go_step3
      go_wp2
      go_loop [9] (fun iv => iv = .int .i64 (n : Int)) (fun _ => 0)
      case atStart => rfl
      case round =>
        obtain rfl := hrel
        go_wp2
        go_step3
        go_wp2
        go_quiet (fail)
        go_wp2
        go_quiet ((go_at_call 51; exact quiet_again2 HIX.out _))
        go_wp2
        rw [Exit.noGoto_ret]
        go_wp2
        rw [Exit.noGoto_ret]
        go_wp2
        go_ret
        exact ⟨rfl, Go.below_drewN (Below.refl _ _) _⟩
    · have hnsI : ¬ (n : Int) < s.size := by omega
      go_enter Tryd.func45, Tryd.ntmps45
      go_wp2_with (go_at_call 52; refine HV.out.mono ?_; rintro e w2 ⟨rfl, hw2⟩; obtain rfl := hw2.symm)
      go_step3
      go_wp2
      go_loop [9] (fun iv => iv = .int .i64 (n : Int)) (fun _ => 0)
      case atStart => rfl
      case round =>
        obtain rfl := hrel
        go_wp2
        go_ret
        exact ⟨rfl, Below.refl _ _⟩
theorem containsRune_asc (s : ByteArray) (r : Int) (w : World) (ha : Asc s) (h1 : 1 ≤ s.size) (hs : s.size ≤ 1000) (hr0 : -2147483648 ≤ r) (hr1 : r ≤ 2147483647) :
    Calls Tryd.prog 37 #[.string s, .int .i32 r] w fun e w' => e = .returned (.bool (decide (0 ≤ idxR s r))) ∧ Below w.heap.size w w' := by
  have HI := Lib.hid (indexRune_asc s r w ha h1 hs hr0 hr1)
  clear ha h1 hs hr0 hr1
  obtain ⟨v, hv⟩ : ∃ v, idxR s r = v := ⟨_, rfl⟩
  rw [hv] at HI ⊢
  clear hv
  go_enter Tryd.func37, Tryd.ntmps37
  go_wp2_with fail
  refine HI.out.mono ?_
  rintro e w1 ⟨rfl, hb⟩
  go_wp2
  go_ret
  exact ⟨rfl, hb⟩
end Go.Proofs.YtpolpihgclemnaaDoor

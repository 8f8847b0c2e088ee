/-
  The contracts of Runes, the reference's and the program's: the code points of a text of at most 1000 bytes in a new row. Conditions: the string is no longer than 2 to the 40; the tables of unicode utf8 stand in memory.
-/
import Derived.Test.YtobpecgecopdnaaDoorNext
import Derived.Test.YtobpecgecopdnaaDoorOwns
import Derived.Test.YtobpecgecopdnaaDoorIntsLaw
import Derived.Test.YtobpecgecopdnaaDoorTabs
import Derived.Deep.DeepMust
import Derived.Lib.IndexAny
import Derived.Lib.OthersKept
namespace Go.Proofs.YtobpecgecopdnaaDoor
open Go.RowKit
open Go.Lib hiding intOf
set_option linter.unusedVariables false
set_option linter.unusedSimpArgs false

/-- the code points of a text of at most 1000 bytes; none of what is no text -/
def textRunes (l : List UInt8) : Option (List Nat) := if 1000 < l.length then none else runes l
def okT (l : List UInt8) : Bool := (textRunes l).isSome
def rl (l : List UInt8) : List Nat := (textRunes l).getD []
def intV (c : Nat) : Value := .int .i64 (c : Int)

/-- what both leave: the code points in a row of the call's own, and whether it is a text -/
def RunesPost (w : World) (l : List UInt8) (e : Ending) (w' : World) : Prop :=
  ∃ v, e = .returned (.tuple #[v, .bool (okT l)]) ∧ w'.ownsRow w.heap.size 3 1 v (rl l).length ((rl l).map intV) ∧ Below w.heap.size w w'

theorem okT_long {l : List UInt8} (h : 1000 < l.length) : okT l = false ∧ rl l = [] := by simp [okT, rl, textRunes, h]
theorem okT_some {l : List UInt8} {r : List Nat} (h : l.length ≤ 1000) (h' : runes l = some r) : okT l = true ∧ rl l = r := by
  have : ¬ 1000 < l.length := by omega
  simp [okT, rl, textRunes, this, h']
theorem okT_none {l : List UInt8} (h' : runes l = none) : okT l = false ∧ rl l = [] := by
  unfold okT rl textRunes
  by_cases h : 1000 < l.length
  · rw [if_pos h]; exact ⟨rfl, rfl⟩
  · rw [if_neg h, h']; exact ⟨rfl, rfl⟩

theorem nx_bound (l : List UInt8) (hne : l ≠ []) : (nx l).2 ≤ l.length ∧ ((nx l).2 ≠ 0 → (nx l).1 ≤ 1114111) := by
  rcases nx_decode l hne with ⟨h, _⟩ | ⟨h, _, h2, _, h5, _⟩
  · rw [h]; simp
  · rw [h]; rw [isPt_iff] at h2; exact ⟨h5, fun _ => by omega⟩

set_option maxRecDepth 10000
set_option maxHeartbeats 1000000 in
theorem specRunes_any (s : ByteArray) (w : World) (hs : s.size ≤ 1099511627776) :
    Calls Tryd.prog 22 #[.string s] w (RunesPost w (bs s)) := by
  obtain ⟨i0, hi, hz0, hz1, hz2⟩ := info_parts infoInt
  by_cases hlong : 1000 < s.size
  · have HO := Lib.hid (okT_long (l := bs s) (by rw [bs_length]; exact hlong))
    go_enter Tryd.func22, Tryd.ntmps22
    go_wp2
    go_ret2
    refine ⟨.slice (some ⟨w.heap.size, 0, none⟩) 0 0, ?_, ?_, (Below.refl _ _).alloc (Nat.le_refl _) _⟩
    · rw [HO.out.1]; rfl
    · rw [HO.out.2]; exact ownsRow_empty _ _ _ (Nat.le_refl _)
  · have hlong' : (s.size : Int) ≤ 1000 := by omega
    have HLO := Lib.hid hlong
    clear hlong
    go_enter Tryd.func22, Tryd.ntmps22
    go_wp2
    go_loopw [4, 5] (fun v i wr => ∃ (k : Nat) (r : List Nat), k ≤ s.size ∧ r.length ≤ k ∧ i = .int .i64 k ∧ wr.ownsRow w.heap.size 3 1 v r.length (r.map intV) ∧ Below w.heap.size w wr ∧ w.heap.size < wr.heap.size ∧ runes (bs s) = (runes ((bs s).drop k)).map (r ++ ·)) (fun _ i _ => s.size - (intOf i).toNat)
    case atStart =>
      refine ⟨0, [], Nat.zero_le _, Nat.le_refl _, rfl, ownsRow_empty _ _ _ (Nat.le_refl _), (Below.refl _ _).alloc (Nat.le_refl _) _, by simp, ?_⟩
      cases h : runes (bs s) <;> simp [h]
    case round =>
      obtain ⟨k, r, hk, hrk, rfl, hown, hb, hsz, hr⟩ := hrel
      have HB := Lib.hid hb
      have HOW := Lib.hid hown
      have HR := Lib.hid hr
      clear hb hown hr
      by_cases hlt : k < s.size
      · go_wp2_with fail
        refine (l01Next_any s k hlt hs _).mono ?_
        rintro e w1 ⟨rfl, hb1⟩
        have HB1 := Lib.hid (HB.out.trans (hb1.mono HB.out.size))
        have HOW1 := Lib.hid (ownsRow_below HOW.out hb1)
        have hne : (bs s).drop k ≠ [] := by
          intro e
          have := congrArg List.length e
          rw [List.length_drop, bs_length] at this
          simp at this; omega
        have HST := Lib.hid (runes_step _ hne)
        have HNX := Lib.hid (nx_bound _ hne)
        obtain ⟨c, hc⟩ : ∃ c, (nx ((bs s).drop k)).1 = c := ⟨_, rfl⟩
        obtain ⟨n, hn⟩ : ∃ n, (nx ((bs s).drop k)).2 = n := ⟨_, rfl⟩
        rw [hc, hn]
        have HC := Lib.hid hc
        have HN := Lib.hid hn
        have hnb := HNX.out
        rw [hn, List.length_drop, bs_length] at hnb
        clear hc hn hb1 hne
        by_cases h0 : n = 0
        · have h0b : ((n : Int) == 0) = true := by rw [h0]; rfl
          have H0 := Lib.hid h0
          clear h0
          go_wp2
          go_ret2
          obtain ⟨h1, h2⟩ := okT_none (l := bs s) (by rw [HR.out, HST.out, HN.out, if_pos H0.out]; rfl)
          refine ⟨.slice (some ⟨w1.heap.size, 0, none⟩) 0 0, ?_, ?_, HB1.out.alloc HB1.out.size _⟩
          · rw [h1]; rfl
          · rw [h2]; exact ownsRow_empty _ _ _ HB1.out.size
        · have h0b : ((n : Int) == 0) = false := by rw [beq_eq_false_iff_ne]; omega
          have hw1 : w.heap.size ≤ w1.heap.size := HB1.out.size
          go_wp2_with (at_builtin; refine wpList_append_own _ rfl _ _ 49 rfl w.heap.size 3 i0 (.int .i64 0) 1 8 Tryd.underlying49 hi hz0 hz1 hz2 rfl (by decide) _ _ _ rfl (HOW1.out.alloc _) ⟨w1.heap.size, 0, none⟩ 1 1 [.int .i64 (c : Int)] rfl rfl (cell_one_new _ _ _) (fun u hu => by simp at hu; subst hu; rfl) (by unfold maxLen; omega) (by omega) (by simp; omega) ?_; intro v2 w2 hown2 hgr2 hnil2)
          have hbz : Below w.heap.size w w2 := Below.grown (HB1.out.alloc HB1.out.size _) hgr2 (by simp; omega) (ownBlock_lo HOW1.out)
          have hsz2 : w.heap.size < w2.heap.size := by have := hgr2.size; simp at this; omega
          refine ⟨⟨k + n, r ++ [c], by omega, by simp; omega, by go_num, ?_, hbz, hsz2, ?_⟩, by simp [intOf]; omega⟩
          · rw [List.length_append, List.map_append]; exact hown2
          · rw [HR.out, HST.out, HN.out, HC.out, if_neg h0, List.drop_drop]
            cases h : runes ((bs s).drop (k + n)) <;> simp [h]
      · obtain rfl : k = s.size := by omega
        go_wp2
        go_ret2
        have he : runes (bs s) = some r := by
          rw [HR.out, List.drop_of_length_le (by rw [bs_length]; exact Nat.le_refl _), runes_nil]; simp
        obtain ⟨h1, h2⟩ := okT_some (by rw [bs_length]; exact Nat.le_of_not_lt HLO.out) he
        refine ⟨u4, ?_, ?_, HB.out⟩
        · rw [h1]; rfl
        · rw [h2]; exact HOW.out

theorem below_iter (w : World) (s : ByteArray) (p : Nat) {B : Nat} (hB : B ≤ w.heap.size) : Below B w (w.iter s p) :=
  ((Below.refl B w).alloc hB _)
set_option maxHeartbeats 2000000 in
theorem runesOf_any (s : ByteArray) (w : World) (hs : s.size ≤ 1099511627776) (hT : Tabs w) :
    Calls Tryd.prog 27 #[.string s] w (RunesPost w (bs s)) := by
  obtain ⟨i0, hi, hz0, hz1, hz2⟩ := info_parts infoInt
  by_cases hlong : 1000 < s.size
  · have HO := Lib.hid (okT_long (l := bs s) (by rw [bs_length]; exact hlong))
    have hlong' : (1000 : Int) < (s.size : Int) := by omega
    go_enter Tryd.func27, Tryd.ntmps27
    go_wp2
    go_ret2
    refine ⟨.slice none 0 0, ?_, ?_, Below.refl _ _⟩
    · rw [HO.out.1]; rfl
    · rw [HO.out.2]; exact ownsRow_none _ _ _
  · have hlong' : (s.size : Int) ≤ 1000 := by omega
    have HLO := Lib.hid hlong
    have HT := Lib.hid hT
    clear hlong hT
    go_enter Tryd.func27, Tryd.ntmps27
    cases hV : Lib.validD s.data.toList
    · have HNO := Lib.hid (okT_none (l := bs s) (by
        cases h : runes (bs s) with
        | none => rfl
        | some r => have := ((runes_valid _ (bs s) (Nat.le_refl _)).1 (by rw [h]; rfl)).1; rw [show Lib.validD (bs s) = false from hV] at this; cases this))
      go_wp2_with (go_at_call 47; refine (validString_any s _ hs HT.out).mono ?_; rintro e w1 ⟨rfl, hb1⟩)
      go_ret2
      refine ⟨.slice none 0 0, ?_, ?_, hb1⟩
      · rw [HNO.out.1]; rfl
      · rw [HNO.out.2]; exact ownsRow_none _ _ _
    · have HV := Lib.hid hV
      cases hZ : (bs s).contains 0
      · have hI : Lib.indexByte s.data.toList (0 : Int).toNat.toUInt8 = -1 := by
          have h1 := Lib.contains_iff_indexByte (bs s) 0
          have h2 := Lib.indexByte_ge (bs s) 0
          rw [hZ] at h1
          have h3 : ¬ (0 ≤ Lib.indexByte (bs s) 0) := by
            intro h; rw [decide_eq_true h] at h1; cases h1
          show Lib.indexByte (bs s) 0 = -1
          omega
        have hsome : ∃ r, runes (bs s) = some r := by
          rw [← Option.isSome_iff_exists, runes_valid _ (bs s) (Nat.le_refl _)]
          refine ⟨hV, fun x hx e => ?_⟩
          have : (bs s).contains 0 = true := by rw [List.contains_iff_mem]; rw [← e]; exact hx
          rw [hZ] at this; cases this
        have HSO := Lib.hid hsome
        clear hsome hZ
        go_wp2_with fail
        refine (validString_any s _ hs HT.out).mono ?_
        rintro e w1 ⟨rfl, hb1⟩
        have HB1 := Lib.hid hb1
        have hzz1 := hb1.size
        clear hb1
        go_wp2_with fail
        refine (Tryd.strings_IndexByte s 0 w1).mono ?_
        rintro e w2 ⟨rfl, hw2⟩
        obtain rfl : w1 = w2 := hw2.symm
        rw [hI]
        clear hI hV
        go_wp2
        go_loopw [4] (fun v wr => ∃ (pos : Nat) (r : List Nat), pos ≤ s.size ∧ r.length ≤ pos ∧ wr.heap[w1.heap.size]? = some (.stringIter s pos) ∧ wr.ownsRow (w1.heap.size + 1) 3 1 v r.length (r.map intV) ∧ Below w.heap.size w wr ∧ runes (bs s) = (runes ((bs s).drop pos)).map (r ++ ·)) (fun _ wr => s.size - wr.iterPos w1.heap.size)
        case atStart =>
          refine ⟨0, [], Nat.zero_le _, Nat.le_refl _, World.iter_heap w1 s 0, ownsRow_none _ _ _, HB1.out.trans (below_iter w1 s 0 HB1.out.size), ?_⟩
          cases h : runes (bs s) <;> simp [h]
        case round =>
          obtain ⟨pos, r, hp, hrp, hit, hown, hb, hr⟩ := hrel
          have HB := Lib.hid hb
          have HOW := Lib.hid hown
          have HR := Lib.hid hr
          have HIT := Lib.hid hit
          have hszr : w1.heap.size < wr.heap.size := (Array.getElem?_eq_some_iff.1 hit).1
          clear hb hown hr
          by_cases hlt : pos < s.size
          · have hnx : ∀ ty, (Instr.next (.pointer (some ⟨w1.heap.size, 0, none⟩)) true ty).run Tryd.prog wr = _ := fun ty => Lib.run_next_any_at wr w1.heap.size s pos ty hit hlt
            have hne : (bs s).drop pos ≠ [] := by
              intro e
              have := congrArg List.length e
              rw [List.length_drop, bs_length] at this
              simp at this; omega
            obtain ⟨q, hq⟩ := HSO.out
            have hq' : (runes ((bs s).drop pos)).isSome = true := by
              have e := HR.out
              rw [hq] at e
              cases h : runes ((bs s).drop pos) with
              | none => rw [h] at e; cases e
              | some t => rfl
            obtain ⟨t0, ht0⟩ := Option.isSome_iff_exists.1 hq'
            obtain ⟨t, e1, e2, e3, e4, e5, e6⟩ := runes_cons hne ht0
            have hdec : decodeL ((bs s).drop pos) = Utf8.decode s pos := decodeL_drop s pos
            rw [hdec] at e1 e2 e4 e5
            rw [List.length_drop, bs_length] at e5
            have h21 := decodeL_rune ((bs s).drop pos)
            rw [hdec] at h21
            obtain ⟨c, hc⟩ : ∃ c, (Utf8.decode s pos).1 = c := ⟨_, rfl⟩
            obtain ⟨n, hn⟩ : ∃ n, (Utf8.decode s pos).2 = n := ⟨_, rfl⟩
            have hit2 := Lib.iterAt_heap wr w1.heap.size s pos (pos + n) hit
            have hb2 := Lib.below_iterAt HB.out (k := w1.heap.size) HB1.out.size s (pos + n)
            have hown2 := ownsRow_iterAt HOW.out (k := w1.heap.size) (by omega) s (pos + n)
            have hsz2 : w1.heap.size < (wr.iterAt w1.heap.size s (pos + n)).heap.size := by rw [Lib.iterAt_size]; exact hszr
            rw [hc, hn] at hnx
            rw [hc] at h21 e1
            rw [hn] at e2 e4 e5
            have HE1 := Lib.hid e1
            have HE2 := Lib.hid e2
            have HT0 := Lib.hid ht0
            have HIT2 := Lib.hid hit2
            have HB2 := Lib.hid hb2
            have HOW2 := Lib.hid hown2
            clear e1 e2 e3 ht0 hq hq' hdec hc hn hit2 hb2 hown2 hne
            generalize hw2 : wr.iterAt w1.heap.size s (pos + n) = w2 at *
            have HW2 := Lib.hid hw2
            clear hw2
            go_wp2_with (at_builtin; refine wpList_append_own _ rfl _ _ 49 rfl (w1.heap.size + 1) 3 i0 (.int .i64 0) 1 8 Tryd.underlying49 hi hz0 hz1 hz2 rfl (by decide) _ _ _ rfl (HOW2.out.alloc _) ⟨w2.heap.size, 0, none⟩ 1 1 [.int .i64 (c : Int)] rfl rfl (cell_one_new _ _ _) (fun u hu => by simp at hu; subst hu; rfl) (by unfold maxLen; omega) (by omega) (by simp; omega) ?_; intro v3 w3 hown3 hgr3 hnil3)
            have hlow : w.heap.size ≤ w1.heap.size := HB1.out.size
            have hbz : Below w.heap.size w w3 := Below.grown (HB2.out.alloc HB2.out.size _) hgr3 (by have := HB2.out.size; simp; omega) (fun k hk => by have := ownBlock_lo HOW2.out k hk; omega)
            have hit3 : w3.heap[w1.heap.size]? = some (.stringIter s (pos + n)) := by
              rw [hgr3.block w1.heap.size (by simp; omega) (fun h => by have := ownBlock_lo HOW2.out _ h.symm; omega), Below.heap_alloc _ _ _ hsz2]; exact HIT2.out
            refine ⟨⟨pos + n, r ++ [c], by omega, by simp; omega, hit3, ?_, hbz, ?_⟩, ?_⟩
            · rw [List.length_append, List.map_append]; exact hown3
            · rw [HR.out, HT0.out, HE1.out, ← List.drop_drop, HE2.out]; simp
            · simp only [World.iterPos, hit3, HIT.out]; omega
          · obtain rfl : pos = s.size := by omega
            have hnx : ∀ ty, (Instr.next (.pointer (some ⟨w1.heap.size, 0, none⟩)) true ty).run Tryd.prog wr = _ := fun ty => Lib.run_next_end_at wr w1.heap.size s s.size ty hit hlt
            go_wp2
            go_ret2
            have he : runes (bs s) = some r := by
              rw [HR.out, List.drop_of_length_le (by rw [bs_length]; exact Nat.le_refl _), runes_nil]; simp
            obtain ⟨h1, h2⟩ := okT_some (by rw [bs_length]; exact Nat.le_of_not_lt HLO.out) he
            refine ⟨u4, ?_, ?_, HB.out⟩
            · rw [h1]; rfl
            · rw [h2]; exact ownsRow_base HOW.out (by have := HB1.out.size; omega)
      · have hI : 0 ≤ Lib.indexByte s.data.toList (0 : Int).toNat.toUInt8 := by
          have h1 := Lib.contains_iff_indexByte (bs s) 0
          rw [hZ] at h1
          exact of_decide_eq_true h1.symm
        have HNO := Lib.hid (okT_none (l := bs s) (by
          cases h : runes (bs s) with
          | none => rfl
          | some r => exact absurd rfl (((runes_valid _ (bs s) (Nat.le_refl _)).1 (by rw [h]; rfl)).2 0 (by rwa [← List.contains_iff_mem]))))
        clear hZ
        go_wp2_with fail
        refine (validString_any s _ hs HT.out).mono ?_
        rintro e w1 ⟨rfl, hb1⟩
        go_wp2_with fail
        refine (Tryd.strings_IndexByte s 0 w1).mono ?_
        rintro e w2 ⟨rfl, rfl⟩
        obtain ⟨z, hz⟩ : ∃ z, Lib.indexByte s.data.toList (0 : Int).toNat.toUInt8 = z := ⟨_, rfl⟩
        rw [hz] at hI ⊢
        clear hz hV
        go_wp2
        go_ret2
        refine ⟨.slice none 0 0, ?_, ?_, hb1⟩
        · rw [HNO.out.1]; rfl
        · rw [HNO.out.2]; exact ownsRow_none _ _ _

/-- an owned row of integers reads as its numbers -/
theorem rowI_owns {w : World} {b : Nat} {a : Option Addr} {cap n : Nat} {l : List Nat} (h : w.ownsRow b 3 1 (.slice a n cap) n (l.map intV)) : RowI .i64 w a (l.map Int.ofNat) := by
  have hl : l.length = n := by simpa using h.1
  rcases h.2 with ⟨h1, rfl⟩ | ⟨g, cap', cur, h1, hg, hh, _⟩
  · left; have : l = [] := List.eq_nil_of_length_eq_zero hl; subst this; rfl
  · right
    simp only [Value.slice.injEq, true_and] at h1
    obtain ⟨rfl, rfl⟩ := h1
    refine ⟨g, 0, rfl, (Array.getElem?_eq_some_iff.1 hh).1, fun i hi => ?_⟩
    rw [List.length_map] at hi
    rw [Nat.zero_add, h.cellAt i (by omega), List.getElem?_map, List.getElem?_eq_getElem hi]
    simp [intV, hi]
end Go.Proofs.YtobpecgecopdnaaDoor

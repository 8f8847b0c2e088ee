/-
  Texts of this claim in one file, in build order: IntsLaw, Tabs, Runes, TextAscii, DecBackWalk. Each says ahead what it proves and under which conditions.
-/
import Derived.Test.YtjjpdoabagnmoaaGreatDoorQ01
import Derived.WalkKit
import Derived.WalkLawsBesides
import Derived.WalkSpells
import Derived.BigQuiet
import Derived.Deep.Light
import Derived.Deep.QuietTactic
import Derived.ProofKit
import Derived.Test.YtjjpdoabagnmoaaGreatDoorQ02
import Derived.Test.YtjjpdoabagnmoaaGreatDoorQ16
import Derived.Deep.DeepMust
import Derived.Lib.IndexAny
import Derived.Lib.OthersKept
import Derived.Test.YtjjpdoabagnmoaaGreatDoorQ15
import Derived.Test.YtjjpdoabagnmoaaGreatDoorQ08
import Derived.Test.YtjjpdoabagnmoaaGreatDoorQ11
/-
  The contracts of the laws' own helpers on slices of integers: toIntS copies, eqIntS compares. No condition.
-/
namespace Go.Proofs.YtjjpdoabagnmoaaGreatDoor
open Go.RowKit
set_option linter.unusedVariables false
set_option linter.unusedSimpArgs false

theorem infoInt : (Tryz.prog.info? 3).map (fun i => (i.zero, i.size, i.bytes)) = some (some (.int .i64 0), 1, 8) := by kernel_rfl

theorem makeInts (n : Nat) (hn : n ≤ 1099511627776) (u : World) : (Instr.makeSlice 36 (.int .i64 (n : Int)) (.int .i64 (n : Int))).run Tryz.prog u =
      .ok (.slice (some ⟨u.heap.size, 0, none⟩) n n) (u.alloc (.cells (madeCells #[.int .i64 0] n) 3)) := by
  obtain ⟨i0, hi, hz0, hz1, hz2⟩ := info_parts infoInt
  have h := run_make (P := Tryz.prog) u 36 3 i0 (.int .i64 0) Tryz.underlying36 hi hz0 .i64 .i64 (n : Int) (n : Int) (by omega) (Int.le_refl _) (by rw [hz2]; omega) (by omega)
  simpa [hz1, Value.cells] using h

theorem madeCells_get (z : Value) (n j : Nat) (hj : j < n) : (madeCells #[z] n)[j]? = some z := by
  have e : j % 1 = 0 := Nat.mod_one j
  simp [madeCells, hj, e]



theorem getD_get (l : List Int) (k : Nat) (h : k < l.length) : l.getD k 0 = l[k] := by simp [h]

end Go.Proofs.YtjjpdoabagnmoaaGreatDoor
/-
  The two tables of unicode utf8 as a row's list gives them to the walks; ValidString's contract. Condition: the tables stand in memory.
-/
namespace Go.Proofs.YtjjpdoabagnmoaaGreatDoor
open Go.RowKit Go.Lib Go.Shelf

/-- the two tables of unicode utf8 stand in memory -/
def Tabs (w : World) : Prop := Lib.Utf8Tabs (Tryz.laysValid_ren.g 3) (Tryz.laysValid_ren.g 4) w
theorem Tabs.below {w w' : World} (h : Tabs w) (hb : Below w.heap.size w w') : Tabs w' := Utf8Tabs_below h hb
theorem tabs_of {W : World} (hL : laidMet Tryz.prog [("unicode/utf8.acceptRanges", Rows.laid_unicode_utf8_acceptRanges), ("unicode/utf8.first", Rows.laid_unicode_utf8_first)] W) : Tabs W := by
  rw [same_accept, same_first] at hL
  exact utf8Tabs_of_readsT (U8Types.of196 Tryz.laysValid) ⟨by kernel_rfl, by kernel_rfl, by kernel_rfl, by kernel_rfl, by kernel_rfl, by kernel_rfl, by kernel_rfl⟩ (Lib.laidMet.reads hL (.tail _ (.head _))) (Lib.laidMet.reads hL (.head _))
theorem tabs_of7 {a b c d e : String × DataW Unit} {W : World} (hL : laidMet Tryz.prog [a, b, c, ("unicode/utf8.acceptRanges", Rows.laid_unicode_utf8_acceptRanges), d, e, ("unicode/utf8.first", Rows.laid_unicode_utf8_first)] W) : Tabs W := by
  rw [same_accept, same_first] at hL
  exact utf8Tabs_of_readsT (U8Types.of196 Tryz.laysValid) ⟨by kernel_rfl, by kernel_rfl, by kernel_rfl, by kernel_rfl, by kernel_rfl, by kernel_rfl, by kernel_rfl⟩ (Lib.laidMet.reads hL (.tail _ (.tail _ (.tail _ (.tail _ (.tail _ (.tail _ (.head _)))))))) (Lib.laidMet.reads hL (.tail _ (.tail _ (.tail _ (.head _)))))
theorem validString_any (s : ByteArray) (w : World) (hs : s.size ≤ 1099511627776) (hT : Tabs w) :
    Calls Tryz.prog 124 #[.string s] w fun e w' => e = .returned (.bool (Lib.validD s.data.toList)) ∧ Below w.heap.size w w' :=
  Any.utf8_ValidString Tryz.laysValid s w (by omega) hT
end Go.Proofs.YtjjpdoabagnmoaaGreatDoor
/-
  The contracts of Runes, the reference's and the program's: the code points of a text of at most 1000 bytes in a new row. Conditions: the string is no longer than 2 to the 40; the tables of unicode utf8 stand in memory.
-/
namespace Go.Proofs.YtjjpdoabagnmoaaGreatDoor
open Go.RowKit
open Go.Lib hiding intOf
set_option linter.unusedVariables false
set_option linter.unusedSimpArgs false

/-- the code points of a text of at most 1000 bytes; none of what is no text -/
def textRunes (l : List UInt8) : Option (List Nat) := if 1000 < l.length then none else runes l
def okT (l : List UInt8) : Bool := (textRunes l).isSome
def rl (l : List UInt8) : List Nat := (textRunes l).getD []
def intV (c : Nat) : Value := .int .i64 (c : Int)

/-- what both leave: the code points in a row of the call's own, and whether it is a text -/
def RunesPost (w : World) (l : List UInt8) (e : Ending) (w' : World) : Prop :=
  ∃ v, e = .returned (.tuple #[v, .bool (okT l)]) ∧ w'.ownsRow w.heap.size 3 1 v (rl l).length ((rl l).map intV) ∧ Below w.heap.size w w'

theorem okT_long {l : List UInt8} (h : 1000 < l.length) : okT l = false ∧ rl l = [] := by simp [okT, rl, textRunes, h]
theorem okT_some {l : List UInt8} {r : List Nat} (h : l.length ≤ 1000) (h' : runes l = some r) : okT l = true ∧ rl l = r := by
  have : ¬ 1000 < l.length := by omega
  simp [okT, rl, textRunes, this, h']
theorem okT_none {l : List UInt8} (h' : runes l = none) : okT l = false ∧ rl l = [] := by
  unfold okT rl textRunes
  by_cases h : 1000 < l.length
  · rw [if_pos h]; exact ⟨rfl, rfl⟩
  · rw [if_neg h, h']; exact ⟨rfl, rfl⟩

theorem nx_bound (l : List UInt8) (hne : l ≠ []) : (nx l).2 ≤ l.length ∧ ((nx l).2 ≠ 0 → (nx l).1 ≤ 1114111) := by
  rcases nx_decode l hne with ⟨h, _⟩ | ⟨h, _, h2, _, h5, _⟩
  · rw [h]; simp
  · rw [h]; rw [isPt_iff] at h2; exact ⟨h5, fun _ => by omega⟩

set_option maxRecDepth 10000
set_option maxHeartbeats 1000000 in
theorem specRunes_any (s : ByteArray) (w : World) (hs : s.size ≤ 1099511627776) :
    Calls Tryz.prog 92 #[.string s] w (RunesPost w (bs s)) := by
  obtain ⟨i0, hi, hz0, hz1, hz2⟩ := info_parts infoInt
  by_cases hlong : 1000 < s.size
  · have HO := Lib.hid (okT_long (l := bs s) (by rw [bs_length]; exact hlong))
    go_enter Tryz.func92, Tryz.ntmps92
    go_wp2
    go_ret2
    refine ⟨.slice (some ⟨w.heap.size, 0, none⟩) 0 0, ?_, ?_, (Below.refl _ _).alloc (Nat.le_refl _) _⟩
    · rw [HO.out.1]; rfl
    · rw [HO.out.2]; exact ownsRow_empty _ _ _ (Nat.le_refl _)
  · have hlong' : (s.size : Int) ≤ 1000 := by omega
    have HLO := Lib.hid hlong
    clear hlong
    go_enter Tryz.func92, Tryz.ntmps92
    go_wp2
    go_loopw [4, 5] (fun v i wr => ∃ (k : Nat) (r : List Nat), k ≤ s.size ∧ r.length ≤ k ∧ i = .int .i64 k ∧ wr.ownsRow w.heap.size 3 1 v r.length (r.map intV) ∧ Below w.heap.size w wr ∧ w.heap.size < wr.heap.size ∧ runes (bs s) = (runes ((bs s).drop k)).map (r ++ ·)) (fun _ i _ => s.size - (intOf i).toNat)
    case atStart =>
      refine ⟨0, [], Nat.zero_le _, Nat.le_refl _, rfl, ownsRow_empty _ _ _ (Nat.le_refl _), (Below.refl _ _).alloc (Nat.le_refl _) _, by simp, ?_⟩
      cases h : runes (bs s) <;> simp [h]
    case round =>
      obtain ⟨k, r, hk, hrk, rfl, hown, hb, hsz, hr⟩ := hrel
      have HB := Lib.hid hb
      have HOW := Lib.hid hown
      have HR := Lib.hid hr
      clear hb hown hr
      by_cases hlt : k < s.size
      · go_wp2_with fail
        refine (l01Next_any s k hlt hs _).mono ?_
        rintro e w1 ⟨rfl, hb1⟩
        have HB1 := Lib.hid (HB.out.trans (hb1.mono HB.out.size))
        have HOW1 := Lib.hid (ownsRow_below HOW.out hb1)
        have hne : (bs s).drop k ≠ [] := by
          intro e
          have := congrArg List.length e
          rw [List.length_drop, bs_length] at this
          simp at this; omega
        have HST := Lib.hid (runes_step _ hne)
        have HNX := Lib.hid (nx_bound _ hne)
        obtain ⟨c, hc⟩ : ∃ c, (nx ((bs s).drop k)).1 = c := ⟨_, rfl⟩
        obtain ⟨n, hn⟩ : ∃ n, (nx ((bs s).drop k)).2 = n := ⟨_, rfl⟩
        rw [hc, hn]
        have HC := Lib.hid hc
        have HN := Lib.hid hn
        have hnb := HNX.out
        rw [hn, List.length_drop, bs_length] at hnb
        clear hc hn hb1 hne
        by_cases h0 : n = 0
        · have h0b : ((n : Int) == 0) = true := by rw [h0]; rfl
          have H0 := Lib.hid h0
          clear h0
          go_wp2
          go_ret2
          obtain ⟨h1, h2⟩ := okT_none (l := bs s) (by rw [HR.out, HST.out, HN.out, if_pos H0.out]; rfl)
          refine ⟨.slice (some ⟨w1.heap.size, 0, none⟩) 0 0, ?_, ?_, HB1.out.alloc HB1.out.size _⟩
          · rw [h1]; rfl
          · rw [h2]; exact ownsRow_empty _ _ _ HB1.out.size
        · have h0b : ((n : Int) == 0) = false := by rw [beq_eq_false_iff_ne]; omega
          have hw1 : w.heap.size ≤ w1.heap.size := HB1.out.size
          go_wp2_with (at_builtin; refine wpList_append_own _ rfl _ _ 36 rfl w.heap.size 3 i0 (.int .i64 0) 1 8 Tryz.underlying36 hi hz0 hz1 hz2 rfl (by decide) _ _ _ rfl (HOW1.out.alloc _) ⟨w1.heap.size, 0, none⟩ 1 1 [.int .i64 (c : Int)] rfl rfl (cell_one_new _ _ _) (fun u hu => by simp at hu; subst hu; rfl) (by unfold maxLen; omega) (by omega) (by simp; omega) ?_; intro v2 w2 hown2 hgr2 hnil2)
          have hbz : Below w.heap.size w w2 := Below.grown (HB1.out.alloc HB1.out.size _) hgr2 (by simp; omega) (ownBlock_lo HOW1.out)
          have hsz2 : w.heap.size < w2.heap.size := by have := hgr2.size; simp at this; omega
          refine ⟨⟨k + n, r ++ [c], by omega, by simp; omega, by go_num, ?_, hbz, hsz2, ?_⟩, by simp [intOf]; omega⟩
          · rw [List.length_append, List.map_append]; exact hown2
          · rw [HR.out, HST.out, HN.out, HC.out, if_neg h0, List.drop_drop]
            cases h : runes ((bs s).drop (k + n)) <;> simp [h]
      · obtain rfl : k = s.size := by omega
        go_wp2
        go_ret2
        have he : runes (bs s) = some r := by
          rw [HR.out, List.drop_of_length_le (by rw [bs_length]; exact Nat.le_refl _), runes_nil]; simp
        obtain ⟨h1, h2⟩ := okT_some (by rw [bs_length]; exact Nat.le_of_not_lt HLO.out) he
        refine ⟨u4, ?_, ?_, HB.out⟩
        · rw [h1]; rfl
        · rw [h2]; exact HOW.out

theorem below_iter (w : World) (s : ByteArray) (p : Nat) {B : Nat} (hB : B ≤ w.heap.size) : Below B w (w.iter s p) :=
  ((Below.refl B w).alloc hB _)
set_option maxHeartbeats 2000000 in
theorem runesOf_any (s : ByteArray) (w : World) (hs : s.size ≤ 1099511627776) (hT : Tabs w) :
    Calls Tryz.prog 95 #[.string s] w (RunesPost w (bs s)) := by
  obtain ⟨i0, hi, hz0, hz1, hz2⟩ := info_parts infoInt
  by_cases hlong : 1000 < s.size
  · have HO := Lib.hid (okT_long (l := bs s) (by rw [bs_length]; exact hlong))
    have hlong' : (1000 : Int) < (s.size : Int) := by omega
    go_enter Tryz.func95, Tryz.ntmps95
    go_wp2
    go_ret2
    refine ⟨.slice none 0 0, ?_, ?_, Below.refl _ _⟩
    · rw [HO.out.1]; rfl
    · rw [HO.out.2]; exact ownsRow_none _ _ _
  · have hlong' : (s.size : Int) ≤ 1000 := by omega
    have HLO := Lib.hid hlong
    have HT := Lib.hid hT
    clear hlong hT
    go_enter Tryz.func95, Tryz.ntmps95
    cases hV : Lib.validD s.data.toList
    · have HNO := Lib.hid (okT_none (l := bs s) (by
        cases h : runes (bs s) with
        | none => rfl
        | some r => have := ((runes_valid _ (bs s) (Nat.le_refl _)).1 (by rw [h]; rfl)).1; rw [show Lib.validD (bs s) = false from hV] at this; cases this))
      go_wp2_with (go_at_call 124; refine (validString_any s _ hs HT.out).mono ?_; rintro e w1 ⟨rfl, hb1⟩)
      go_ret2
      refine ⟨.slice none 0 0, ?_, ?_, hb1⟩
      · rw [HNO.out.1]; rfl
      · rw [HNO.out.2]; exact ownsRow_none _ _ _
    · have HV := Lib.hid hV
      cases hZ : (bs s).contains 0
      · have hI : Lib.indexByte s.data.toList (0 : Int).toNat.toUInt8 = -1 := by
          have h1 := Lib.contains_iff_indexByte (bs s) 0
          have h2 := Lib.indexByte_ge (bs s) 0
          rw [hZ] at h1
          have h3 : ¬ (0 ≤ Lib.indexByte (bs s) 0) := by
            intro h; rw [decide_eq_true h] at h1; cases h1
          show Lib.indexByte (bs s) 0 = -1
          omega
        have hsome : ∃ r, runes (bs s) = some r := by
          rw [← Option.isSome_iff_exists, runes_valid _ (bs s) (Nat.le_refl _)]
          refine ⟨hV, fun x hx e => ?_⟩
          have : (bs s).contains 0 = true := by rw [List.contains_iff_mem]; rw [← e]; exact hx
          rw [hZ] at this; cases this
        have HSO := Lib.hid hsome
        clear hsome hZ
        go_wp2_with fail
        refine (validString_any s _ hs HT.out).mono ?_
        rintro e w1 ⟨rfl, hb1⟩
        have HB1 := Lib.hid hb1
        have hzz1 := hb1.size
        clear hb1
        go_wp2_with fail
        refine (Tryz.strings_IndexByte s 0 w1).mono ?_
        rintro e w2 ⟨rfl, hw2⟩
        obtain rfl : w1 = w2 := hw2.symm
        rw [hI]
        clear hI hV
        go_wp2
        go_loopw [4] (fun v wr => ∃ (pos : Nat) (r : List Nat), pos ≤ s.size ∧ r.length ≤ pos ∧ wr.heap[w1.heap.size]? = some (.stringIter s pos) ∧ wr.ownsRow (w1.heap.size + 1) 3 1 v r.length (r.map intV) ∧ Below w.heap.size w wr ∧ runes (bs s) = (runes ((bs s).drop pos)).map (r ++ ·)) (fun _ wr => s.size - wr.iterPos w1.heap.size)
        case atStart =>
          refine ⟨0, [], Nat.zero_le _, Nat.le_refl _, World.iter_heap w1 s 0, ownsRow_none _ _ _, HB1.out.trans (below_iter w1 s 0 HB1.out.size), ?_⟩
          cases h : runes (bs s) <;> simp [h]
        case round =>
          obtain ⟨pos, r, hp, hrp, hit, hown, hb, hr⟩ := hrel
          have HB := Lib.hid hb
          have HOW := Lib.hid hown
          have HR := Lib.hid hr
          have HIT := Lib.hid hit
          have hszr : w1.heap.size < wr.heap.size := (Array.getElem?_eq_some_iff.1 hit).1
          clear hb hown hr
          by_cases hlt : pos < s.size
          · have hnx : ∀ ty, (Instr.next (.pointer (some ⟨w1.heap.size, 0, none⟩)) true ty).run Tryz.prog wr = _ := fun ty => Lib.run_next_any_at wr w1.heap.size s pos ty hit hlt
            have hne : (bs s).drop pos ≠ [] := by
              intro e
              have := congrArg List.length e
              rw [List.length_drop, bs_length] at this
              simp at this; omega
            obtain ⟨q, hq⟩ := HSO.out
            have hq' : (runes ((bs s).drop pos)).isSome = true := by
              have e := HR.out
              rw [hq] at e
              cases h : runes ((bs s).drop pos) with
              | none => rw [h] at e; cases e
              | some t => rfl
            obtain ⟨t0, ht0⟩ := Option.isSome_iff_exists.1 hq'
            obtain ⟨t, e1, e2, e3, e4, e5, e6⟩ := runes_cons hne ht0
            have hdec : decodeL ((bs s).drop pos) = Utf8.decode s pos := decodeL_drop s pos
            rw [hdec] at e1 e2 e4 e5
            rw [List.length_drop, bs_length] at e5
            have h21 := decodeL_rune ((bs s).drop pos)
            rw [hdec] at h21
            obtain ⟨c, hc⟩ : ∃ c, (Utf8.decode s pos).1 = c := ⟨_, rfl⟩
            obtain ⟨n, hn⟩ : ∃ n, (Utf8.decode s pos).2 = n := ⟨_, rfl⟩
            have hit2 := Lib.iterAt_heap wr w1.heap.size s pos (pos + n) hit
            have hb2 := Lib.below_iterAt HB.out (k := w1.heap.size) HB1.out.size s (pos + n)
            have hown2 := ownsRow_iterAt HOW.out (k := w1.heap.size) (by omega) s (pos + n)
            have hsz2 : w1.heap.size < (wr.iterAt w1.heap.size s (pos + n)).heap.size := by rw [Lib.iterAt_size]; exact hszr
            rw [hc, hn] at hnx
            rw [hc] at h21 e1
            rw [hn] at e2 e4 e5
            have HE1 := Lib.hid e1
            have HE2 := Lib.hid e2
            have HT0 := Lib.hid ht0
            have HIT2 := Lib.hid hit2
            have HB2 := Lib.hid hb2
            have HOW2 := Lib.hid hown2
            clear e1 e2 e3 ht0 hq hq' hdec hc hn hit2 hb2 hown2 hne
            generalize hw2 : wr.iterAt w1.heap.size s (pos + n) = w2 at *
            have HW2 := Lib.hid hw2
            clear hw2
            go_wp2_with (at_builtin; refine wpList_append_own _ rfl _ _ 36 rfl (w1.heap.size + 1) 3 i0 (.int .i64 0) 1 8 Tryz.underlying36 hi hz0 hz1 hz2 rfl (by decide) _ _ _ rfl (HOW2.out.alloc _) ⟨w2.heap.size, 0, none⟩ 1 1 [.int .i64 (c : Int)] rfl rfl (cell_one_new _ _ _) (fun u hu => by simp at hu; subst hu; rfl) (by unfold maxLen; omega) (by omega) (by simp; omega) ?_; intro v3 w3 hown3 hgr3 hnil3)
            have hlow : w.heap.size ≤ w1.heap.size := HB1.out.size
            have hbz : Below w.heap.size w w3 := Below.grown (HB2.out.alloc HB2.out.size _) hgr3 (by have := HB2.out.size; simp; omega) (fun k hk => by have := ownBlock_lo HOW2.out k hk; omega)
            have hit3 : w3.heap[w1.heap.size]? = some (.stringIter s (pos + n)) := by
              rw [hgr3.block w1.heap.size (by simp; omega) (fun h => by have := ownBlock_lo HOW2.out _ h.symm; omega), Below.heap_alloc _ _ _ hsz2]; exact HIT2.out
            refine ⟨⟨pos + n, r ++ [c], by omega, by simp; omega, hit3, ?_, hbz, ?_⟩, ?_⟩
            · rw [List.length_append, List.map_append]; exact hown3
            · rw [HR.out, HT0.out, HE1.out, ← List.drop_drop, HE2.out]; simp
            · simp only [World.iterPos, hit3, HIT.out]; omega
          · obtain rfl : pos = s.size := by omega
            have hnx : ∀ ty, (Instr.next (.pointer (some ⟨w1.heap.size, 0, none⟩)) true ty).run Tryz.prog wr = _ := fun ty => Lib.run_next_end_at wr w1.heap.size s s.size ty hit hlt
            go_wp2
            go_ret2
            have he : runes (bs s) = some r := by
              rw [HR.out, List.drop_of_length_le (by rw [bs_length]; exact Nat.le_refl _), runes_nil]; simp
            obtain ⟨h1, h2⟩ := okT_some (by rw [bs_length]; exact Nat.le_of_not_lt HLO.out) he
            refine ⟨u4, ?_, ?_, HB.out⟩
            · rw [h1]; rfl
            · rw [h2]; exact ownsRow_base HOW.out (by have := HB1.out.size; omega)
      · have hI : 0 ≤ Lib.indexByte s.data.toList (0 : Int).toNat.toUInt8 := by
          have h1 := Lib.contains_iff_indexByte (bs s) 0
          rw [hZ] at h1
          exact of_decide_eq_true h1.symm
        have HNO := Lib.hid (okT_none (l := bs s) (by
          cases h : runes (bs s) with
          | none => rfl
          | some r => exact absurd rfl (((runes_valid _ (bs s) (Nat.le_refl _)).1 (by rw [h]; rfl)).2 0 (by rwa [← List.contains_iff_mem]))))
        clear hZ
        go_wp2_with fail
        refine (validString_any s _ hs HT.out).mono ?_
        rintro e w1 ⟨rfl, hb1⟩
        go_wp2_with fail
        refine (Tryz.strings_IndexByte s 0 w1).mono ?_
        rintro e w2 ⟨rfl, rfl⟩
        obtain ⟨z, hz⟩ : ∃ z, Lib.indexByte s.data.toList (0 : Int).toNat.toUInt8 = z := ⟨_, rfl⟩
        rw [hz] at hI ⊢
        clear hz hV
        go_wp2
        go_ret2
        refine ⟨.slice none 0 0, ?_, ?_, hb1⟩
        · rw [HNO.out.1]; rfl
        · rw [HNO.out.2]; exact ownsRow_none _ _ _

/-- an owned row of integers reads as its numbers -/
theorem rowI_owns {w : World} {b : Nat} {a : Option Addr} {cap n : Nat} {l : List Nat} (h : w.ownsRow b 3 1 (.slice a n cap) n (l.map intV)) : RowI .i64 w a (l.map Int.ofNat) := by
  have hl : l.length = n := by simpa using h.1
  rcases h.2 with ⟨h1, rfl⟩ | ⟨g, cap', cur, h1, hg, hh, _⟩
  · left; have : l = [] := List.eq_nil_of_length_eq_zero hl; subst this; rfl
  · right
    simp only [Value.slice.injEq, true_and] at h1
    obtain ⟨rfl, rfl⟩ := h1
    refine ⟨g, 0, rfl, (Array.getElem?_eq_some_iff.1 hh).1, fun i hi => ?_⟩
    rw [List.length_map] at hi
    rw [Nat.zero_add, h.cellAt i (by omega), List.getElem?_map, List.getElem?_eq_getElem hi]
    simp [intV, hi]
end Go.Proofs.YtjjpdoabagnmoaaGreatDoor
/-
  Plain facts: a number's text is a text, short, and of ASCII bytes. No program here. Condition: a number in form.
-/
namespace Go.Proofs.YtjjpdoabagnmoaaGreatDoor
open Go.RowKit
set_option linter.unusedVariables false
set_option linter.unusedSimpArgs false

def Plain (l : List UInt8) : Prop := ∀ c ∈ l, 1 ≤ c.toNat ∧ c.toNat < 128
theorem Plain.app {a b : List UInt8} (ha : Plain a) (hb : Plain b) : Plain (a ++ b) := fun c hc => (List.mem_append.1 hc).elim (ha c) (hb c)
theorem plain_of {l : List UInt8} (h : l.all (fun c => decide (1 ≤ c.toNat) && decide (c.toNat < 128)) = true) : Plain l := fun c hc => by
  have := List.all_eq_true.1 h c hc
  simpa using this
theorem plain_digs {l : List UInt8} (h : l.all isDig = true) : Plain l := fun c hc => by
  have := (isDig_iff c).1 (List.all_eq_true.1 h c hc)
  omega
theorem runes_ascii : ∀ l : List UInt8, Plain l → (runes l).isSome = true
  | [], _ => rfl
  | c :: l, h => by
    obtain ⟨h1, h2⟩ := h c (List.mem_cons_self ..)
    have e : (nx (c :: l)) = (c.toNat, 1) := by
      rw [nx_N _ (by simp)]
      show nxN _ c.toNat _ _ _ = _
      unfold nxN
      rw [if_pos h2, if_pos h1]
    rw [runes_step _ (by simp), e]
    have ih := runes_ascii l (fun d hd => h d (List.mem_cons_of_mem _ hd))
    simpa using ih
theorem okT_ascii {l : List UInt8} (h : Plain l) (hl : l.length ≤ 1000) : okT l = true := by
  unfold okT textRunes
  rw [if_neg (by omega)]
  exact runes_ascii l h
theorem plain_parts {sg b d1 d2 ex sg2 d3 : List UInt8} (h1 : IsSg sg) (h2 : IsBody b d1 d2) (h3 : IsEx ex sg2 d3) : Plain (sg ++ (b ++ ex)) := by
  have hs : ∀ {sg : List UInt8}, IsSg sg → Plain sg := fun h => by
    rcases h with rfl | rfl | rfl
    · exact plain_of rfl
    · exact plain_of (by decide)
    · exact plain_of (by decide)
  refine (hs h1).app (Plain.app ?_ ?_)
  · rcases h2 with ⟨rfl, -, a, -⟩ | ⟨rfl, a, b, -⟩
    · exact plain_digs a
    · exact (plain_digs a).app (Plain.app (a := [46]) (plain_of (by decide)) (plain_digs b))
  · rcases h3 with ⟨rfl, -, -⟩ | ⟨c, hc, rfl, a, b, -⟩
    · exact plain_of rfl
    · refine Plain.app (a := [c]) ?_ ((hs a).app (plain_digs b))
      rcases hc with rfl | rfl <;> exact plain_of (by decide)
theorem text_plain {n : Bool} {s : ByteArray} {x : Int} (h : decOk n (bs s) x = true) : Plain (textL n (bs s) x) := by
  obtain ⟨sg, b, d1, d2, ex, sg2, d3, e, h1, h2, h3, -⟩ := text_parts h
  rw [e]; exact plain_parts h1 h2 h3
theorem text_len {n : Bool} {s : ByteArray} {x : Int} (h : decOk n (bs s) x = true) : 1 ≤ (textL n (bs s) x).length ∧ (textL n (bs s) x).length ≤ 200 := by
  constructor
  · obtain ⟨sg, b, d1, d2, ex, sg2, d3, e, h1, h2, h3, -⟩ := text_parts h
    obtain ⟨c, r, hb, -⟩ := body_head h2
    rw [e, hb]; simp; omega
  · obtain ⟨a1, a2, a3, -⟩ := dec_facts h
    rw [← bs_length] at a1
    have hsg : (signL n).length ≤ 1 := by cases n <;> decide
    by_cases h0 : bs s = []
    · unfold textL; rw [if_pos h0]; decide
    · have hnb : 0 < s.size := by
        rw [← bs_length]; exact List.length_pos_iff.2 h0
      have hh := dec_height h hnb
      rw [← bs_length] at hh
      unfold textL
      rw [if_neg h0]
      split
      · split <;> split
        all_goals
          simp only [List.length_append, List.length_cons, List.length_take, List.length_drop, List.length_nil]
          first
            | (have := dec_len_le 2 (-(x + ((bs s).length : Int) - 1)).toNat (by decide) (by omega); have := dec_len_le 2 (x + ((bs s).length : Int) - 1).toNat (by decide) (by omega); omega)
            | (have := dec_len_le 2 (-(x + ((bs s).length : Int) - 1)).toNat (by decide) (by omega); omega)
            | (have := dec_len_le 2 (x + ((bs s).length : Int) - 1).toNat (by decide) (by omega); omega)
      · split
        · simp only [List.length_append, zs_len]; omega
        · split
          · simp only [List.length_append, List.length_cons, List.length_nil, zs_len]; omega
          · simp only [List.length_append, List.length_cons, List.length_take, List.length_drop]; omega
end Go.Proofs.YtjjpdoabagnmoaaGreatDoor
/-
  The walk of FnDecBack, out of the contracts. Conditions: the table of strconv stands in memory; the library's variable MaxLen holds an int.
-/
namespace Go.Proofs.YtjjpdoabagnmoaaGreatDoor
open Go.RowKit
set_option linter.unusedVariables false
set_option linter.unusedSimpArgs false

/-- a number is read back from its text -/
theorem read_back {n : Bool} {s : ByteArray} {x : Int} (hk : decOk n (bs s) x = true) (w : World) (hM : MaxCell w) :
    Calls Tryz.prog 20 #[.string (ofL (textL n (bs s) x))] w fun e w' => e = .returned (.tuple #[.agg #[.bool n, .string s, .int .i64 x], .int .i64 0]) ∧ Below w.heap.size w w' := by
  obtain ⟨sg, b, d1, d2, ex, sg2, d3, e, h1, h2, h3, hV⟩ := text_parts hk
  obtain ⟨l1, l2⟩ := text_len hk
  have hsc := text_scan hk [] noPart_nil
  rw [List.append_nil] at hsc
  have hz := size_ofL (textL n (bs s) x)
  refine implDecRead_yes (ofL (textL n (bs s) x)) w hM (by omega) (by omega) (by rw [bs_ofL, hsc, hz]) n s x 0 (fun w hM => ?_)
  have := decRead_any (ofL (textL n (bs s) x)) sg b d1 d2 ex sg2 d3 w hM (by omega) (by rw [bs_ofL]; exact e) h1 h2 h3
  rw [hV] at this
  unfold numV at this
  rw [ofL_bs] at this
  exact this
set_option maxRecDepth 10000 in
set_option maxHeartbeats 4000000 in
theorem fnDecBack_walk (w : World) (hT : PowTab w) (hM : MaxCell w) (a : Option Addr) (len cap : Nat) (z : List Int) (hr : IsRow .u8 w a len cap z) :
    Calls Tryz.prog 6 #[.slice a len cap] w fun e w' => e = .returned (.bool true) ∧ Below w.heap.size w w' := by
  obtain ⟨-, -, hmax, -⟩ := isRow_row hr
  by_cases hb : 1048576 < len
  · have HBG := Lib.hid (decide_eq_true hb)
    go_enter Tryz.func6, Tryz.ntmps6
    go_wp2_with fail
    refine (big_any a len cap _ hmax).mono ?_
    rintro e w1 ⟨rfl, hw1⟩
    subst hw1
    rw [HBG.out]
    go_wp2
    go_ret
    exact ⟨rfl, Below.refl _ _⟩
  · have HBG := Lib.hid (decide_eq_false hb)
    go_enter Tryz.func6, Tryz.ntmps6
    go_wp2_with fail
    refine (big_any a len cap _ hmax).mono ?_
    rintro e w1 ⟨rfl, hw1⟩
    subst hw1
    rw [HBG.out]
    go_wp2_with fail
    refine (drawDecText_any a len cap z _ hr (by omega)).mono ?_
    rintro e w2 ⟨n, s, x, rfl, hs, hx, hb2⟩
    have hsm : s.size ≤ maxLen := by unfold maxLen; omega
    have hxw := wf_of hx
    have hT2 := hT.below hb2
    have hM2 := hM.below hb2
    go_wp2_with fail
    obtain ⟨w3, hw3, hz3, hv3, hc3, hf3⟩ := one_laid w2 n s x
    rw [hw3]
    have hT3 := hT2.below hv3
    have hM3 := hM2.below hv3
    have hB3 := hb2.trans (hv3.mono hb2.size)
    clear hw3 hv3 hb2 hT2 hM2
    cases hk : decOk n (bs s) x
    · refine (implDecText_no n s x _ hsm hxw hk).mono ?_
      rintro e w4 ⟨rfl, hb4⟩
      obtain ⟨hz4, hc4, hf4⟩ := one_kept hb4 hz3 hc3 hf3
      have hB4 := hB3.trans (hb4.mono hB3.size)
      clear hb4 hz3 hc3 hf3 hB3
      go_wp2_with fail
      refine (specDecOk_any n s x _ hsm hxw).mono ?_
      rintro e w5 ⟨rfl, hb5⟩
      rw [hk]
      obtain ⟨hz5, hc5, hf5⟩ := one_kept hb5 hz4 hc4 hf4
      have hB5 := hB4.trans (hb5.mono hB4.size)
      clear hb5 hz4 hc4 hf4 hB4
      go_wp2_with fail
      refine (implDecOk_any n s x _ hsm hxw).mono ?_
      rintro e w6 ⟨rfl, hb6⟩
      rw [hk]
      have hB6 := hB5.trans (hb6.mono hB5.size)
      go_wp2
      go_ret
      exact ⟨rfl, hB6⟩
    · obtain ⟨l1, l2⟩ := text_len hk
      have hzz := size_ofL (textL n (bs s) x)
      have hRB := Lib.hid (fun w hM => read_back hk w hM)
      obtain ⟨T, hTT⟩ : ∃ T, ofL (textL n (bs s) x) = T := ⟨_, rfl⟩
      rw [hTT] at hRB hzz
      have hemp := isEmpty_no (s := T) (by omega)
      refine (implDecText_yes n s x _ hT3 hsm hxw hk).mono ?_
      rintro e w4 ⟨rfl, hb4⟩
      rw [hTT]
      obtain ⟨hz4, hc4, hf4⟩ := one_kept hb4 hz3 hc3 hf3
      have hB4 := hB3.trans (hb4.mono hB3.size)
      have hM4 := hM3.below hb4
      clear hb4 hz3 hc3 hf3 hB3 hTT hzz l1 l2
      go_wp2_with fail
      refine (specDecOk_any n s x _ hsm hxw).mono ?_
      rintro e w5 ⟨rfl, hb5⟩
      rw [hk]
      obtain ⟨hz5, hc5, hf5⟩ := one_kept hb5 hz4 hc4 hf4
      have hB5 := hB4.trans (hb5.mono hB4.size)
      have hM5 := hM4.below hb5
      clear hb5 hz4 hc4 hf4 hB4 hM4
      go_wp2_with fail
      refine (hRB.out _ hM5).mono ?_
      rintro e w6 ⟨rfl, hb6⟩
      obtain ⟨hz6, hc6, hf6⟩ := one_kept hb6 hz5 hc5 hf5
      have hB6 := hB5.trans (hb6.mono hB5.size)
      clear hb6 hz5 hc5 hf5 hB5 hM5
      have hne : ¬ (w2.heap.size = w6.heap.size) := Nat.ne_of_lt hz6
      have hne' : ¬ (w6.heap.size = w2.heap.size) := Nat.ne_of_gt hz6
      go_wp2_with fail
      refine (implDecOk_any n s x _ hsm hxw).mono ?_
      rintro e w7 ⟨rfl, hb7⟩
      rw [hk]
      go_wp2
      go_ret
      exact ⟨rfl, (hB6.alloc hB6.size _).trans (hb7.mono (hB6.alloc hB6.size _).size)⟩
end Go.Proofs.YtjjpdoabagnmoaaGreatDoor

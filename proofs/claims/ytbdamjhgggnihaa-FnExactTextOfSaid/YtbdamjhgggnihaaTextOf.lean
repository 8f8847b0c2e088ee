/-
  The contracts of textOf and TextOf: the text of a list of code points. Conditions: the list stands in memory and has at most 2 to the 20 numbers.
-/
import Derived.Test.YtbdamjhgggnihaaPickL
import Derived.Test.YtbdamjhgggnihaaBuilt
import Derived.Test.YtbdamjhgggnihaaTxtAny
import Derived.Test.YtbdamjhgggnihaaBytes
import Derived.Test.YtbdamjhgggnihaaIntsLaw
import Derived.Lib.Agree
namespace Go.Proofs.Ytbdamjhgggnihaa
open Go.RowKit
open Go.Lib hiding intOf
set_option linter.unusedVariables false
set_option linter.unusedSimpArgs false

set_option maxRecDepth 10000 in
set_option maxHeartbeats 1000000 in
theorem textOf_any (a : Option Addr) (cap n : Nat) (l : List Int) (w : World) (h : RowI .i64 w a l) (hln : l.length = n) (hl : n ≤ 1048576) :
    Calls Try.prog 10 #[.slice a n cap] w fun e w' => e = .returned (.tuple #[.string (ofL (txtI l)), .bool (ptsOk l)]) ∧ Below w.heap.size w w' := by
  have HR := Lib.hid h
  have HLN := Lib.hid hln
  clear h hln
  go_enter Try.func10, Try.ntmps10
  go_wp2
  go_loopw [9] (fun i wr => ∃ j : Nat, j ≤ n ∧ i = .int .i64 j ∧ Built w.heap.size w.heap.size (encI (l.take j)) wr ∧ Below w.heap.size w wr ∧ ptsOk (l.take j) = true) (fun i _ => n - (intOf i).toNat)
  case atStart => exact ⟨0, Nat.zero_le _, rfl, built_new w, (Below.refl _ _).alloc (Nat.le_refl _) _, rfl⟩
  case round =>
    obtain ⟨j, hj, rfl, hbu, hb, hok⟩ := hrel
    have HB := Lib.hid hb
    have HBU := Lib.hid hbu
    have HOK := Lib.hid hok
    have hsz := hb.size
    have hlen := encI_length (l.take j)
    rw [List.length_take] at hlen
    clear hb hbu hok
    by_cases hlt : j < n
    · have hjl : j < l.length := by rw [HLN.out]; exact hlt
      have hR : RowI .i64 wr a l := HR.out.below HB.out
      rcases hR with h0 | ⟨b, off, rfl, hbl, hc⟩
      · rw [h0] at hjl; exact absurd hjl (Nat.not_lt_zero _)
      have hc0 := hc j hjl
      rw [getD_get l j hjl] at hc0
      have hmem := List.getElem_mem hjl
      have htk := encI_take l j hjl
      have hpk := ptsOk_take hjl HOK.out
      generalize l[j] = c at *
      have HTK := Lib.hid htk
      have HPK := Lib.hid hpk
      clear htk hpk hc
      cases hp : isPt c
      · have hno := ptsOk_no hmem hp
        have e : txtI l = [] := by unfold txtI; rw [hno]; rfl
        go_wp2_with (go_at_call 12; refine (isPoint_any _ _).mono ?_; rintro e w1 ⟨rfl, rfl⟩; rw [hp])
        go_ret2
        rw [e, hno]
        exact ⟨rfl, HB.out⟩
      · have hpi := hp
        rw [isPt_iff] at hpi
        obtain ⟨hp1, hp2, hp3⟩ := hpi
        have HP := Lib.hid hp
        obtain ⟨d, hd⟩ : ∃ d : Nat, c.toNat = d := ⟨_, rfl⟩
        have hcd : c = (d : Int) := by omega
        subst hcd
        have hdd : ((d : Int)).toNat = d := by omega
        rw [hdd] at HTK
        clear hd hdd
        go_wp2_with fail
        refine (isPoint_any _ _).mono ?_
        rintro e w1 ⟨rfl, hw1⟩
        obtain rfl : wr = w1 := hw1.symm
        rw [HP.out]
        go_wp2_with fail
        refine (writeRune_any _ _ _ d (by omega) _ HBU.out (by omega) hsz).mono ?_
        rintro e w2 ⟨rfl, hbu2, hb2⟩
        go_wp2
        refine ⟨⟨j + 1, by omega, by go_num, by rw [HTK.out]; exact hbu2, HB.out.trans hb2, HPK.out HP.out⟩, by simp [intOf]; omega⟩
    · obtain rfl : j = n := by omega
      have hall : l.take j = l := List.take_of_length_le (by rw [HLN.out]; exact Nat.le_refl _)
      rw [hall] at HBU HOK hlen
      have e : txtI l = encI l := by unfold txtI; rw [if_pos HOK.out]
      go_wp2_with fail
      refine (builtString_any _ _ _ _ HBU.out hsz).mono ?_
      rintro e w2 ⟨rfl, hb2⟩
      go_wp2
      go_ret2
      rw [e, HOK.out]
      exact ⟨rfl, HB.out.trans hb2⟩

theorem implTextOf_any (a : Option Addr) (cap n : Nat) (l : List Int) (w : World) (h : RowI .i64 w a l) (hln : l.length = n) (hl : n ≤ 1048576) :
    Calls Try.prog 6 #[.slice a n cap] w fun e w' => e = .returned (.tuple #[.string (ofL (tofL l)), .bool (tofOk l)]) ∧ Below w.heap.size w w' := by
  go_enter Try.func6, Try.ntmps6
  go_wp2_with fail
  refine (textOf_any a cap n l _ h hln hl).mono ?_
  rintro e w1 ⟨rfl, hb1⟩
  have hlen := encI_length l
  cases hp : ptsOk l
  · obtain ⟨e1, e2⟩ := tofOk_pts hp
    go_wp2
    go_ret2
    rw [e1, e2]
    exact ⟨rfl, hb1⟩
  · have e : txtI l = encI l := by unfold txtI; rw [if_pos hp]
    rw [e]
    have hsz := size_ofL (encI l)
    by_cases hlong : 1000 < (encI l).length
    · obtain ⟨e1, e2⟩ := tofOk_long hlong
      go_wp2
      go_ret2
      rw [e1, e2]
      exact ⟨rfl, hb1⟩
    · obtain ⟨e1, e2⟩ := tofOk_yes hp (by omega)
      go_wp2
      go_ret2
      rw [e1, e2]
      exact ⟨rfl, hb1⟩

set_option maxRecDepth 10000 in
set_option maxHeartbeats 1000000 in
theorem specTextOf_any (a : Option Addr) (cap n : Nat) (l : List Int) (w : World) (h : RowI .i64 w a l) (hln : l.length = n) (hl : n ≤ 1048576) :
    Calls Try.prog 4 #[.slice a n cap] w fun e w' => e = .returned (.tuple #[.string (ofL (tofL l)), .bool (tofOk l)]) ∧ Below w.heap.size w w' := by
  obtain ⟨i0, hi, hz0, hz1, hz2⟩ := info_parts infoByte
  have HR := Lib.hid h
  have HLN := Lib.hid hln
  clear h hln
  go_enter Try.func4, Try.ntmps4
  go_wp2
  go_loopw [4, 5] (fun v i wr => ∃ j : Nat, j ≤ n ∧ i = .int .i64 j ∧ wr.ownsRow w.heap.size 5 1 v (encI (l.take j)).length ((encI (l.take j)).map byteV) ∧ Below w.heap.size w wr ∧ w.heap.size < wr.heap.size ∧ ptsOk (l.take j) = true ∧ (encI (l.take j)).length ≤ 1000) (fun _ i _ => n - (intOf i).toNat)
  case atStart => exact ⟨0, Nat.zero_le _, rfl, ownsRow_empty _ _ _ (Nat.le_refl _), (Below.refl _ _).alloc (Nat.le_refl _) _, by simp, rfl, by simp [encI, enc]⟩
  case round =>
    obtain ⟨j, hj, rfl, hown, hb, hsz, hok, hlen⟩ := hrel
    have HB := Lib.hid hb
    have HOW := Lib.hid hown
    have HOK := Lib.hid hok
    clear hb hown hok
    by_cases hlt : j < n
    · have hjl : j < l.length := by rw [HLN.out]; exact hlt
      have hR : RowI .i64 wr a l := HR.out.below HB.out
      rcases hR with h0 | ⟨b, off, rfl, hbl, hc⟩
      · rw [h0] at hjl; exact absurd hjl (Nat.not_lt_zero _)
      have hc0 := hc j hjl
      rw [getD_get l j hjl] at hc0
      have hmem := List.getElem_mem hjl
      have htk := encI_take l j hjl
      have hpk := ptsOk_take hjl HOK.out
      have hmono := encI_mono l (j + 1)
      generalize l[j] = c at *
      have HTK := Lib.hid htk
      have HPK := Lib.hid hpk
      clear htk hpk hc
      cases hp : isPt c
      · obtain ⟨e1, e2⟩ := tofOk_pts (ptsOk_no hmem hp)
        have E1 := Lib.hid e1
        have E2 := Lib.hid e2
        clear e1 e2
        go_wp2_with (go_at_call 8; refine (l01Point_any _ _).mono ?_; rintro e w1 ⟨rfl, rfl⟩; rw [hp])
        go_ret2
        rw [E1.out, E2.out]
        exact ⟨rfl, HB.out⟩
      · have hpi := hp
        rw [isPt_iff] at hpi
        obtain ⟨hp1, hp2, hp3⟩ := hpi
        have HP := Lib.hid hp
        obtain ⟨d, hd⟩ : ∃ d : Nat, c.toNat = d := ⟨_, rfl⟩
        have hcd : c = (d : Int) := by omega
        subst hcd
        have hdd : ((d : Int)).toNat = d := by omega
        rw [hdd] at HTK
        have hp4 := ptBytes_pos d
        have hpl : (runeCells (d : Int)).length = (ptBytes d).length := by rw [← pt_cells, List.length_map]
        obtain ⟨m, hm⟩ : ∃ m, (ptBytes d).length = m := ⟨_, rfl⟩
        have hsum : (encI (l.take (j + 1))).length = (encI (l.take j)).length + m := by rw [HTK.out, List.length_append, hm]
        rw [hm] at hp4 hpl
        rw [hsum] at hmono
        have HM := Lib.hid hm
        have HSUM := Lib.hid hsum
        obtain ⟨q, hq⟩ : ∃ q, (encI (l.take j)).length = q := ⟨_, rfl⟩
        rw [hq] at hlen HOW hmono HSUM
        clear hd hdd hm hsum hp hq
        go_wp2_with fail
        refine (l01Point_any _ _).mono ?_
        rintro e w1 ⟨rfl, hw1⟩
        obtain rfl : wr = w1 := hw1.symm
        rw [HP.out]
        go_wp2_with fail
        refine (l01Bytes_any (d : Int) HP.out _).mono ?_
        rintro e w1 ⟨rfl, rfl⟩
        rw [hpl]
        have hnew : (wr.alloc (.cells (runeCells (d : Int)).toArray 5)).ownsRow w.heap.size 5 1 (.slice (some ⟨wr.heap.size, 0, none⟩) m m) m ((ptBytes d).map byteV) := by
          have h := World.ownsRow_lit (base := w.heap.size) (e := 5) (size := 1) wr (runeCells (d : Int)).toArray m HB.out.size (by unfold maxLen; omega) (by simp [hpl])
          rw [pt_cells]
          simpa using h
        have HNEW := Lib.hid (ownsRow_news hnew)
        clear hnew
        by_cases hlong : 1000 < q + m
        · obtain ⟨e1, e2⟩ := tofOk_long (l := l) (by omega)
          have E1 := Lib.hid e1
          have E2 := Lib.hid e2
          clear e1 e2
          go_wp2_with (at_builtin; refine wpList_append_own _ rfl _ _ 28 rfl w.heap.size 5 i0 (.int .u8 0) 1 1 Try.underlying28 hi hz0 hz1 hz2 rfl (by decide) _ _ _ rfl (HOW.out.alloc _) ⟨wr.heap.size, 0, none⟩ m m ((ptBytes d).map byteV) rfl (by simp [HM.out]) HNEW.out byteV_one (by unfold maxLen; omega) (by omega) (by simp; omega) ?_; intro v2 w2 hown2 hgr2 hnil2; obtain ⟨a2, c2, rfl⟩ := ownsRow_slice hown2)
          have hbz : Below w.heap.size w w2 := Below.grown (HB.out.alloc HB.out.size _) hgr2 (by simp; omega) (ownBlock_lo HOW.out)
          go_ret2
          rw [E1.out, E2.out]
          exact ⟨rfl, hbz⟩
        · go_wp2_with (at_builtin; refine wpList_append_own _ rfl _ _ 28 rfl w.heap.size 5 i0 (.int .u8 0) 1 1 Try.underlying28 hi hz0 hz1 hz2 rfl (by decide) _ _ _ rfl (HOW.out.alloc _) ⟨wr.heap.size, 0, none⟩ m m ((ptBytes d).map byteV) rfl (by simp [HM.out]) HNEW.out byteV_one (by unfold maxLen; omega) (by omega) (by simp; omega) ?_; intro v2 w2 hown2 hgr2 hnil2; obtain ⟨a2, c2, rfl⟩ := ownsRow_slice hown2)
          have hbz : Below w.heap.size w w2 := Below.grown (HB.out.alloc HB.out.size _) hgr2 (by simp; omega) (ownBlock_lo HOW.out)
          have hsz2 : w.heap.size < w2.heap.size := by have := hgr2.size; simp at this; omega
          refine ⟨⟨j + 1, by omega, by go_num, ?_, hbz, hsz2, HPK.out HP.out, by rw [HSUM.out]; omega⟩, by simp [intOf]; omega⟩
          rw [HSUM.out, HTK.out, List.map_append]
          exact hown2
    · obtain rfl : j = n := by omega
      have hall : l.take j = l := List.take_of_length_le (by rw [HLN.out]; exact Nat.le_refl _)
      rw [hall] at HOW HOK hlen
      obtain ⟨e1, e2⟩ := tofOk_yes HOK.out hlen
      have hconv := textOfAny HOW.out
      go_wp2
      go_ret2
      rw [e1, e2]
      exact ⟨rfl, HB.out⟩
end Go.Proofs.Ytbdamjhgggnihaa

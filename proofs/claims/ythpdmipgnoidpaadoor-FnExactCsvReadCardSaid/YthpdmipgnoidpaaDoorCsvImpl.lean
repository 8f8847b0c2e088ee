/-
  The contract of the program's CsvRead: the rows of a text in new rows of strings. Condition: the tables of unicode utf8 stand in memory.
-/
import Derived.Test.YthpdmipgnoidpaaDoorCsvRow
namespace Go.Proofs.YthpdmipgnoidpaaDoor
open Go.RowKit
open Go.Lib hiding intOf
set_option linter.unusedVariables false
set_option linter.unusedSimpArgs false

theorem Rdr.low {w w' : World} {g B : Nat} {s : ByteArray} {k : Nat} (h : Rdr w g s k) (hb : Below B w w') (hg : g < B) (hs : w.heap.size ≤ w'.heap.size) : Rdr w' g s k :=
  ⟨by rw [hb.cell (p := ⟨g, 0, none⟩) hg]; exact h.text, by rw [hb.cell (p := ⟨g, 1, none⟩) hg]; exact h.place, by rw [hb.frozen (p := ⟨g, 1, none⟩) hg]; exact h.free, Nat.lt_of_lt_of_le h.lt hs⟩
theorem laid_rdr (u : World) (s : ByteArray) (t : TypeId) : ∃ w0, u.alloc (.cells #[.string s, .int .i64 0] t) = w0 ∧ w0.heap.size = u.heap.size + 1 ∧ Below u.heap.size u w0 ∧ Rdr w0 u.heap.size s 0 :=
  ⟨_, rfl, by simp, (Below.refl _ _).alloc (Nat.le_refl _) _, by simp, by simp, by simp, by simp⟩

set_option maxRecDepth 20000 in
set_option maxHeartbeats 4000000 in
theorem implCsvRead_any (s : ByteArray) (w : World) (hs : s.size ≤ 1099511627776) (hT : Tabs w) :
    Calls Tryd.prog 15 #[.string s] w (RowsPost w (csvT s)) := by
  obtain ⟨ir, hir, hrz0, hrz1, hrz2⟩ := info_parts infoRow
  have HT := Lib.hid hT
  clear hT
  go_enter Tryd.func15, Tryd.ntmps15
  go_wp2_with fail
  refine (isFile_any s _ hs HT.out).mono ?_
  rintro e w1 ⟨rfl, hb1⟩
  have HB1 := Lib.hid hb1
  have hz1 := hb1.size
  clear hb1
  cases hk : okF (bs s)
  · have HE := Lib.hid (csvT_no hk)
    go_wp2
    refine bodyPost_ret (v := .tuple #[.slice none 0 0, .int .i64 0, .int .i64 1]) (by simp [results, Tryd.results15, go_sem, *]) rfl ?_
    rw [HE.out]
    exact ⟨_, [], rfl, rfl, rowsIn_none _ _ _, HB1.out⟩
  have HY := Lib.hid (fun x (h0 : s.size ≠ 0) h => csvT_yes (s := s) (x := x) hk h0 h)
  have HY0 := Lib.hid (fun h0 => csvT_empty (s := s) hk h0)
  have hs4 := okF_size hk
  clear hk
  obtain ⟨u, hu, hsu, hbu, hru⟩ := laid_rdr w1 s 65
  have HU := Lib.hid hu
  have HRU := Lib.hid hru
  have HBU := Lib.hid (HB1.out.trans (hbu.mono hz1))
  clear hu hbu hru
  go_wp2
  rw [HU.out]
  go_loopw [6] (fun rv wr => ∃ (k : Nat) (rows : Row3) (Q : List RowQ), Rdr wr w1.heap.size s k ∧ k ≤ s.size ∧ RowsIn wr (w1.heap.size + 1) rv Q wr.heap.size ∧ ssOf Q = rowsS rows ∧ rows.length ≤ k ∧ Below w.heap.size w wr ∧ (k < s.size → ∀ res, CsvR ((bs s).drop k) k [] rows res → CsvR (bs s) 0 [] [] res) ∧ (s.size ≤ k → csvT s = (rows, 0, 0))) (fun _ wr => s.size - (intOf ((wr.cell? ⟨w1.heap.size, 1, none⟩).getD undef)).toNat)
  case atStart => exact ⟨0, [], [], HRU.out, Nat.zero_le _, rowsIn_none _ _ _, rfl, Nat.zero_le _, HBU.out, fun _ res h => by simpa using h, fun h => HY0.out (by omega)⟩
  case round =>
    obtain ⟨k, rows, Q, hr, hks, hin, hss, hrl, hb, hG, hGe⟩ := hrel
    have HR := Lib.hid hr
    have HIN := Lib.hid hin
    have HSS := Lib.hid hss
    have HB := Lib.hid hb
    have HG := Lib.hid hG
    have HGE := Lib.hid hGe
    have c0 := hr.text
    have c1 := hr.place
    have gl := hr.lt
    have hQl := ssOf_len hss
    have hwz := hb.size
    clear hr hin hss hb hG hGe
    by_cases hlt : k < s.size
    · have hltI : (k : Int) < s.size := by omega
      go_wp2_with fail
      refine (csvRow_any w1.heap.size s k _ HR.out hlt hs4).mono ?_
      rintro e w2 ⟨code, k', cv, rfl, ⟨hr2, hm2⟩, hk1, hk2, ⟨a2, l2, c2, rfl⟩, hpost⟩
      have HR2 := Lib.hid hr2
      have HM2 := Lib.hid hm2
      have c02 := hr2.text
      have c12 := hr2.place
      have gl2 := hr2.lt
      have hw2 := hm2.size
      have HB2 := Lib.hid (show Below w.heap.size w w2 from HB.out.trans (hm2.below (by omega) hwz))
      have HIN2 := Lib.hid (RowsOf.most HIN.out hm2 (Nat.lt_succ_self _))
      clear hr2 hm2 c0 c1
      rcases hpost with ⟨rfl, hkk, cells, hc1, hc2, hown, hGr1, hGr2⟩ | ⟨hc0, hc7, hGr⟩
      · obtain ⟨a', c', hv⟩ := ownsRow_slice hown
        obtain ⟨q, hq⟩ : ∃ q, cells.length = q := ⟨_, rfl⟩
        rw [hq] at hv hown hc1 hc2
        simp only [Value.slice.injEq] at hv
        obtain ⟨rfl, rfl, rfl⟩ := hv
        have HOWN := Lib.hid hown
        have HGR1 := Lib.hid hGr1
        have HGR2 := Lib.hid hGr2
        have HBE : Hid (Below w2.heap.size w2 ((w2.alloc (.cells #[.slice a2 l2 c2] 60)).alloc (.cells #[.slice a2 l2 c2] 60))) := Lib.hid (((Below.refl _ _).alloc (Nat.le_refl _) _).alloc (by simp) _)
        clear hown hGr1 hGr2 hq
        go_wp2_with (at_builtin; refine wpList_push_row rfl _ _ 22 rfl (w1.heap.size + 1) wr.heap.size ir (.agg #[.slice none 0 0]) 24 Tryd.underlying22 hir hrz0 hrz1 hrz2 rfl u6 Q Q.length rfl rfl (.inr (RowsOf.below HIN2.out HBE.out)) ⟨a2, l2, c2, cells.map ofL⟩ (ownsRow_below HOWN.out HBE.out) hc1 (by omega) ⟨_, 0, none⟩ 1 rfl (one_at _ _ _ _ (by simp)) (by unfold maxLen; omega) (by omega) (by simp; omega) ?_; intro v4 w4 hin4 hb4; have HIN4 := Lib.hid hin4; have HB4 := Lib.hid ((HB2.out.trans (HBE.out.mono (by omega))).trans (hb4.mono (by omega))); have HR4 := Lib.hid ((HR2.out.below HBE.out).low hb4 (Nat.lt_succ_self _) hb4.size); clear hin4 hb4)
        refine ⟨⟨k', rows ++ [cells], Q ++ [⟨a2, l2, c2, cells.map ofL⟩], HR4.out, hk2, HIN4.out, by rw [ssOf_snoc, rowsS_snoc, HSS.out], by rw [List.length_append]; simp; omega, HB4.out, fun h res hh => HG.out hlt res (HGR2.out h rows res hh), fun h => HY.out _ (by omega) (HG.out hlt _ (HGR1.out (by omega) rows))⟩, ?_⟩
        rw [HR.out.place, HR4.out.place]; simp [intOf]; omega
      · have HE : Hid (csvT s = (rows, k', code)) := Lib.hid (HY.out _ (by omega) (HG.out hlt _ (hGr rows)))
        have hcb : ((code : Int) != 0) = true := by rw [bne_iff_ne]; omega
        clear hGr
        go_wp2
        go_quiet (fail)
        go_wp2
        refine bodyPost_ret (v := .tuple #[u6, .int .i64 k', .int .i64 code]) (by simp [results, Tryd.results15, go_sem, *]) rfl ?_
        rw [HE.out]
        have HBE : Below w2.heap.size w2 ((w2.alloc (.cells #[.slice a2 l2 c2] 60)).drewN nq) := Go.below_drewN ((Below.refl _ _).alloc (Nat.le_refl _) _) _
        exact ⟨_, Q, rfl, HSS.out, RowsOf.all (RowsOf.base (RowsOf.below HIN2.out HBE) (by omega)), HB2.out.trans (HBE.mono (by omega))⟩
    · have hltI : ¬ (k : Int) < s.size := by omega
      have HE : Hid (csvT s = (rows, 0, 0)) := Lib.hid (HGE.out (by omega))
      go_wp2
      refine bodyPost_ret (v := .tuple #[u6, .int .i64 0, .int .i64 0]) (by simp [results, Tryd.results15, go_sem, *]) rfl ?_
      rw [HE.out]
      exact ⟨_, Q, rfl, HSS.out, RowsOf.base HIN.out (by omega), HB.out⟩
end Go.Proofs.YthpdmipgnoidpaaDoor

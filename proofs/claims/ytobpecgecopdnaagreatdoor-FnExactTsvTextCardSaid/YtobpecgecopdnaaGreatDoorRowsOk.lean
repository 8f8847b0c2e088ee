/-
  The contracts of RowsOk, the reference's and the program's: are these rows of 1 to 100 texts. Conditions: the slice stands in memory and is small; the tables of unicode utf8 stand in memory.
-/
import Derived.Test.YtobpecgecopdnaaGreatDoorRowL
import Derived.Test.YtobpecgecopdnaaGreatDoorBetw
import Derived.Test.YtobpecgecopdnaaGreatDoorTextOk
import Derived.Test.YtobpecgecopdnaaGreatDoorTabs
namespace Go.Proofs.YtobpecgecopdnaaGreatDoor
open Go.RowKit
open Go.Lib hiding intOf
set_option linter.unusedVariables false
set_option linter.unusedSimpArgs false

def cellsOk (l : List ByteArray) : Bool := l.all (fun s => okT (bs s))
def rowOk (l : List ByteArray) : Bool := betw (l.length : Int) 1 100 && cellsOk l
def rowsOk (R : List (List ByteArray)) : Bool := R.all rowOk
theorem cellsOk_no {l : List ByteArray} {s : ByteArray} (h : s ∈ l) (hs : okT (bs s) = false) : cellsOk l = false := by unfold cellsOk; rw [List.all_eq_false]; exact ⟨s, h, by simp [hs]⟩
theorem cellsOk_take {l : List ByteArray} {j : Nat} (h : j < l.length) (h1 : cellsOk (l.take j) = true) (h2 : okT (bs l[j]) = true) : cellsOk (l.take (j + 1)) = true := by
  unfold cellsOk at *
  rw [List.take_succ_eq_append_getElem h, List.all_append, h1]
  simp [h2]
theorem rowsOk_no {R : List (List ByteArray)} {l : List ByteArray} (h : l ∈ R) (hs : rowOk l = false) : rowsOk R = false := by unfold rowsOk; rw [List.all_eq_false]; exact ⟨l, h, by simp [hs]⟩
theorem rowsOk_take {Q : List RowQ} {j : Nat} (h : j < Q.length) (h1 : rowsOk (ssOf (Q.take j)) = true) (h2 : rowOk (Q[j]).ss = true) : rowsOk (ssOf (Q.take (j + 1))) = true := by
  unfold rowsOk ssOf at *
  rw [List.take_succ_eq_append_getElem h, List.map_append, List.all_append, h1]
  simp [h2]
theorem ss_mem {Q : List RowQ} {j : Nat} (h : j < Q.length) : (Q[j]).ss ∈ ssOf Q := List.mem_map_of_mem (List.getElem_mem h)

set_option maxRecDepth 10000 in
set_option maxHeartbeats 1000000 in
theorem specRowsOk_any (a : Option Addr) (cap n : Nat) (Q : List RowQ) (w : World) (h : RowR w a Q) (hn : Q.length = n) (hl : n ≤ 1048576) (hq : ∀ q ∈ Q, q.l ≤ 1048576 ∧ ∀ s ∈ q.ss, s.size ≤ 1048576) :
    Calls Tryz.prog 10 #[.slice a n cap] w fun e w' => e = .returned (.bool (rowsOk (ssOf Q))) ∧ Below w.heap.size w w' := by
  have HR := Lib.hid h
  have HQS := Lib.hid hq
  have HN := Lib.hid hn
  clear h hq hn
  go_enter Tryz.func10, Tryz.ntmps10
  go_wp2
  go_loopw [3] (fun i wr => ∃ j : Nat, j ≤ n ∧ i = .int .i64 j ∧ Below w.heap.size w wr ∧ rowsOk (ssOf (Q.take j)) = true) (fun i _ => n - (intOf i).toNat)
  case atStart => exact ⟨0, Nat.zero_le _, rfl, Below.refl _ _, rfl⟩
  case round =>
    obtain ⟨j, hj, rfl, hb, hok⟩ := hrel
    have HB := Lib.hid hb
    have HOK := Lib.hid hok
    clear hok
    by_cases hlt : j < n
    · have hjQ : j < Q.length := by rw [HN.out]; exact hlt
      obtain ⟨hr1, hr2⟩ := HR.out
      rcases hr1 with h0 | ⟨b, off, rfl, hbl, hc⟩
      · rw [h0] at hjQ; exact absurd hjQ (Nat.not_lt_zero _)
      have hcw := hc j hjQ
      have hqj := hr2 _ (List.getElem_mem hjQ)
      have hqs := HQS.out _ (List.getElem_mem hjQ)
      have htk := rowsOk_take hjQ HOK.out
      have hmem := ss_mem hjQ
      generalize Q[j] = q at *
      obtain ⟨qa, ql, qc, ss⟩ := q
      simp only [] at hqj hqs htk hmem
      have hcq0 : w.cell? ⟨b, off + j, none⟩ = some (.slice qa ql qc) := hcw
      have hcq : wr.cell? ⟨b, off + j, none⟩ = some (.slice qa ql qc) := by rw [hb.cell (p := ⟨b, off + j, none⟩) hbl]; exact hcq0
      have HC0 := Lib.hid hcq0
      have HTK := Lib.hid htk
      have HNO := Lib.hid (fun h => rowsOk_no (R := ssOf Q) hmem h)
      obtain ⟨hq1, hq2, hq3⟩ := hqj
      have HROW := Lib.hid hq1
      have HQ2 := Lib.hid hq2
      have HQSZ := Lib.hid hqs.2
      have hql := hqs.1
      clear hc hcw hr2 htk hmem hqs hq1 hcq0 hb
      cases hbt : betw (ql : Int) 1 100
      · have HE := Lib.hid (HNO.out (by unfold rowOk; rw [HQ2.out, hbt]; rfl))
        clear hq2
        go_wp2_with (go_at_call 17; refine (l01Between_any _ _ _ _).mono ?_; rintro e w2 ⟨rfl, hw2⟩; obtain rfl : wr = w2 := hw2.symm; rw [hbt])
        go_ret
        rw [HE.out]
        exact ⟨rfl, HB.out⟩
      · have HBT := Lib.hid hbt
        clear hq2
        go_wp2_with (go_at_call 17; refine (l01Between_any _ _ _ _).mono ?_; rintro e w2 ⟨rfl, hw2⟩; obtain rfl : wr = w2 := hw2.symm; rw [hbt])
        clear hbt
        have hq1' := HROW.out
        rcases hq1' with h0 | ⟨b2, off2, rfl, hbl2, hc2⟩
        · exfalso
          rw [h0] at HQ2
          have h1 := HQ2.out
          have h2 := HBT.out
          simp at h1
          subst h1
          simp [betw] at h2
        have HC2 := Lib.hid hc2
        clear hc2
        go_loopw [4] (fun i wi => ∃ k : Nat, k ≤ ql ∧ i = .int .i64 k ∧ Below w.heap.size w wi ∧ cellsOk (ss.take k) = true) (fun i _ => ql - (intOf i).toNat)
        case atStart => exact ⟨0, Nat.zero_le _, rfl, HB.out, rfl⟩
        case round =>
          obtain ⟨k, hk, rfl, hb2, hok2⟩ := hrel
          have HB2 := Lib.hid hb2
          have HOK2 := Lib.hid hok2
          have hcq2 : wr.cell? ⟨b, off + j, none⟩ = some (.slice (some ⟨b2, off2, none⟩) ql qc) := by rw [hb2.cell (p := ⟨b, off + j, none⟩) hbl]; exact HC0.out
          clear hok2
          by_cases hlt2 : k < ql
          · have hks : k < ss.length := by rw [HQ2.out]; exact hlt2
            have hcs := HC2.out k hks
            rw [getD_getS _ k hks, ← hb2.cell (p := ⟨b2, off2 + k, none⟩) hbl2] at hcs
            have hsz := HQSZ.out _ (List.getElem_mem hks)
            have htk2 := cellsOk_take hks HOK2.out
            have hno2 := fun h => cellsOk_no (l := ss) (List.getElem_mem hks) h
            generalize ss[k] = s at *
            have HTK2 := Lib.hid htk2
            have HNO2 := Lib.hid hno2
            clear htk2 hno2 hks hb2
            cases hs : okT (bs s)
            · have HE := Lib.hid (HNO.out (by unfold rowOk; rw [HNO2.out hs, Bool.and_false]))
              go_wp2_with fail
              refine (specTextOk_any s _ (by omega)).mono ?_
              rintro e w3 ⟨rfl, hb3⟩
              rw [hs]
              go_wp2
              go_ret
              rw [HE.out]
              exact ⟨rfl, HB2.out.trans (hb3.mono HB2.out.size)⟩
            · have HS := Lib.hid hs
              clear hs
              go_wp2_with fail
              refine (specTextOk_any s _ (by omega)).mono ?_
              rintro e w3 ⟨rfl, hb3⟩
              rw [HS.out]
              go_wp2
              exact ⟨⟨k + 1, by omega, by go_num, HB2.out.trans (hb3.mono HB2.out.size), HTK2.out HS.out⟩, by simp [intOf]; omega⟩
          · obtain rfl : k = ql := by omega
            have hall : ss.take k = ss := List.take_of_length_le (by rw [HQ2.out]; exact Nat.le_refl _)
            rw [hall] at HOK2
            have hro : rowOk ss = true := by unfold rowOk; rw [HQ2.out, HBT.out, HOK2.out]; rfl
            have HRO := Lib.hid hro
            clear hb2 hall hro
            go_wp2
            exact ⟨⟨j + 1, by omega, by go_num, HB2.out, HTK.out HRO.out⟩, by simp [intOf]; omega⟩
    · obtain rfl : j = n := by omega
      have hall : Q.take j = Q := List.take_of_length_le (by rw [HN.out]; exact Nat.le_refl _)
      rw [hall] at HOK
      go_wp2
      go_ret
      rw [HOK.out]
      exact ⟨rfl, hb⟩

theorem cellFn_any (s : ByteArray) (w : World) (hs : s.size ≤ 1099511627776) (hT : Tabs w) :
    Calls Tryz.prog 33 #[.string s] w fun e w' => e = .returned (.bool (!okT (bs s))) ∧ Below w.heap.size w w' := by
  go_enter Tryz.func33, Tryz.ntmps33
  go_wp2_with fail
  refine (implTextOk_any s _ hs hT).mono ?_
  rintro e w1 ⟨rfl, hb⟩
  go_wp2
  go_ret
  exact ⟨rfl, hb⟩

set_option maxHeartbeats 1000000 in
theorem idxCells_any (a : Option Addr) (c n : Nat) (ss : List ByteArray) (w : World) (h : RowS w a ss) (hn : ss.length = n) (hl : n ≤ 1048576) (hsz : ∀ s ∈ ss, s.size ≤ 1048576) (hT : Tabs w) :
    Calls Tryz.prog 40 #[.slice a n c, .func (.func 33) #[] #[]] w fun e w' => ∃ v : Int, e = .returned (.int .i64 v) ∧ decide (0 ≤ v) = !cellsOk ss ∧ Below w.heap.size w w' := by
  have HR := Lib.hid h
  have HS := Lib.hid hsz
  have HN := Lib.hid hn
  have HT := Lib.hid hT
  clear h hsz hn hT
  go_enter Tryz.func40, Tryz.ntmps40
  go_wp2
  go_loopw [8] (fun i wr => ∃ k : Nat, k ≤ n ∧ i = .int .i64 k ∧ Below w.heap.size w wr ∧ cellsOk (ss.take k) = true) (fun i _ => n - (intOf i).toNat)
  case atStart => exact ⟨0, Nat.zero_le _, rfl, Below.refl _ _, rfl⟩
  case round =>
    obtain ⟨k, hk, rfl, hb, hok⟩ := hrel
    have HB := Lib.hid hb
    have HOK := Lib.hid hok
    clear hok
    by_cases hlt : k < n
    · have hks : k < ss.length := by rw [HN.out]; exact hlt
      rcases HR.out with h0 | ⟨b, off, rfl, hbl, hc⟩
      · rw [h0] at hks; exact absurd hks (Nat.not_lt_zero _)
      have hcs := hc k hks
      rw [getD_getS _ k hks, ← hb.cell (p := ⟨b, off + k, none⟩) hbl] at hcs
      have hsk := HS.out _ (List.getElem_mem hks)
      have htk := cellsOk_take hks HOK.out
      have hno := fun h => cellsOk_no (l := ss) (List.getElem_mem hks) h
      generalize ss[k] = s at *
      have HTK := Lib.hid htk
      have HNO := Lib.hid hno
      have HF := Lib.hid (cellFn_any s wr (by omega) (HT.out.below hb))
      clear hc htk hno hks hb
      cases hs : okT (bs s)
      · have HE := Lib.hid (HNO.out hs)
        rw [hs] at HF
        clear hs
        go_wp2_with fail
        refine HF.out.mono ?_
        rintro e w2 ⟨rfl, hb2⟩
        go_wp2
        go_ret
        refine ⟨(k : Int), rfl, ?_, HB.out.trans (hb2.mono HB.out.size)⟩
        rw [HE.out]
        simp
      · have HS2 := Lib.hid hs
        rw [hs] at HF
        clear hs
        go_wp2_with fail
        refine HF.out.mono ?_
        rintro e w2 ⟨rfl, hb2⟩
        go_wp2
        exact ⟨⟨k + 1, by omega, by go_num, HB.out.trans (hb2.mono HB.out.size), HTK.out HS2.out⟩, by simp [intOf]; omega⟩
    · obtain rfl : k = n := by omega
      have hall : ss.take k = ss := List.take_of_length_le (by rw [HN.out]; exact Nat.le_refl _)
      rw [hall] at HOK
      go_wp2
      go_ret
      refine ⟨-1, rfl, ?_, hb⟩
      rw [HOK.out]
      rfl
theorem hasCells_any (a : Option Addr) (c n : Nat) (ss : List ByteArray) (w : World) (h : RowS w a ss) (hn : ss.length = n) (hl : n ≤ 1048576) (hsz : ∀ s ∈ ss, s.size ≤ 1048576) (hT : Tabs w) :
    Calls Tryz.prog 32 #[.slice a n c, .func (.func 33) #[] #[]] w fun e w' => e = .returned (.bool (!cellsOk ss)) ∧ Below w.heap.size w w' := by
  go_enter Tryz.func32, Tryz.ntmps32
  go_wp2_with fail
  refine (idxCells_any a c n ss _ h hn hl hsz hT).mono ?_
  rintro e w1 ⟨v, rfl, hv, hb⟩
  go_wp2
  go_ret
  rw [← hv]
  exact ⟨rfl, hb⟩
theorem rowFn_any (q : RowQ) (w : World) (h : RowS w q.a q.ss) (hn : q.ss.length = q.l) (hl : q.l ≤ 1048576) (hsz : ∀ s ∈ q.ss, s.size ≤ 1048576) (hT : Tabs w) :
    Calls Tryz.prog 30 #[.agg #[.slice q.a q.l q.c]] w fun e w' => e = .returned (.bool (!rowOk q.ss)) ∧ Below w.heap.size w w' := by
  have HA := Lib.hid (fun W (hb : Below w.heap.size w W) => hasCells_any q.a q.c q.l q.ss W (h.below hb) hn hl hsz (hT.below hb))
  have hro : rowOk q.ss = (betw (q.l : Int) 1 100 && cellsOk q.ss) := by unfold rowOk; rw [hn]
  rw [hro]
  clear h hsz hT hn hro
  cases hbt : betw (q.l : Int) 1 100
  · go_enter Tryz.func30, Tryz.ntmps30
    go_wp2_with (go_at_call 31; refine (within_any _ _ _ _).mono ?_; rintro e w2 ⟨rfl, rfl⟩; rw [hbt])
    go_ret
    exact ⟨rfl, (Below.refl _ _).alloc (Nat.le_refl _) _⟩
  · go_enter Tryz.func30, Tryz.ntmps30
    go_wp2_with (go_at_call 31; refine (within_any _ _ _ _).mono ?_; rintro e w2 ⟨rfl, rfl⟩; rw [hbt])
    refine (HA.out _ ((Below.refl _ _).alloc (Nat.le_refl _) _)).mono ?_
    rintro e w3 ⟨rfl, hb⟩
    go_wp2
    go_ret
    refine ⟨?_, ((Below.refl w.heap.size w).alloc (Nat.le_refl _) _).trans (hb.mono (by simp))⟩
    simp

set_option maxHeartbeats 1000000 in
theorem idxRows_any (a : Option Addr) (c n : Nat) (Q : List RowQ) (w : World) (h : RowR w a Q) (hn : Q.length = n) (hl : n ≤ 1048576) (hq : ∀ q ∈ Q, q.l ≤ 1048576 ∧ ∀ s ∈ q.ss, s.size ≤ 1048576) (hT : Tabs w) :
    Calls Tryz.prog 39 #[.slice a n c, .func (.func 30) #[] #[]] w fun e w' => ∃ v : Int, e = .returned (.int .i64 v) ∧ decide (0 ≤ v) = !rowsOk (ssOf Q) ∧ Below w.heap.size w w' := by
  have HR := Lib.hid h
  have HS := Lib.hid hq
  have HN := Lib.hid hn
  have HT := Lib.hid hT
  clear h hq hn hT
  go_enter Tryz.func39, Tryz.ntmps39
  go_wp2
  go_loopw [8] (fun i wr => ∃ k : Nat, k ≤ n ∧ i = .int .i64 k ∧ Below w.heap.size w wr ∧ rowsOk (ssOf (Q.take k)) = true) (fun i _ => n - (intOf i).toNat)
  case atStart => exact ⟨0, Nat.zero_le _, rfl, Below.refl _ _, rfl⟩
  case round =>
    obtain ⟨k, hk, rfl, hb, hok⟩ := hrel
    have HB := Lib.hid hb
    have HOK := Lib.hid hok
    clear hok
    by_cases hlt : k < n
    · have hkQ : k < Q.length := by rw [HN.out]; exact hlt
      obtain ⟨hr1, hr2⟩ := HR.out
      rcases hr1 with h0 | ⟨b, off, rfl, hbl, hc⟩
      · rw [h0] at hkQ; exact absurd hkQ (Nat.not_lt_zero _)
      have hcw := hc k hkQ
      rw [← hb.cell (p := ⟨b, off + k, none⟩) hbl] at hcw
      have hqk := hr2 _ (List.getElem_mem hkQ)
      have hsk := HS.out _ (List.getElem_mem hkQ)
      have htk := rowsOk_take hkQ HOK.out
      have hmem := ss_mem hkQ
      generalize Q[k] = q at *
      have hcq : wr.cell? ⟨b, off + k, none⟩ = some (.slice q.a q.l q.c) := hcw
      have HTK := Lib.hid htk
      have HNO := Lib.hid (fun h => rowsOk_no (R := ssOf Q) hmem h)
      have HF := Lib.hid (rowFn_any q wr (hqk.1.below hb) hqk.2.1 hsk.1 hsk.2 (HT.out.below hb))
      clear hc hcw hr2 htk hmem hqk hsk hb
      cases hs : rowOk q.ss
      · have HE := Lib.hid (HNO.out hs)
        rw [hs] at HF
        clear hs
        go_wp2_with fail
        refine HF.out.mono ?_
        rintro e w2 ⟨rfl, hb2⟩
        go_wp2
        go_ret
        refine ⟨(k : Int), rfl, ?_, HB.out.trans (hb2.mono HB.out.size)⟩
        rw [HE.out]
        simp
      · have HS2 := Lib.hid hs
        rw [hs] at HF
        clear hs
        go_wp2_with fail
        refine HF.out.mono ?_
        rintro e w2 ⟨rfl, hb2⟩
        go_wp2
        exact ⟨⟨k + 1, by omega, by go_num, HB.out.trans (hb2.mono HB.out.size), HTK.out HS2.out⟩, by simp [intOf]; omega⟩
    · obtain rfl : k = n := by omega
      have hall : Q.take k = Q := List.take_of_length_le (by rw [HN.out]; exact Nat.le_refl _)
      rw [hall] at HOK
      go_wp2
      go_ret
      refine ⟨-1, rfl, ?_, hb⟩
      rw [HOK.out]
      rfl
theorem implRowsOk_any (a : Option Addr) (c n : Nat) (Q : List RowQ) (w : World) (h : RowR w a Q) (hn : Q.length = n) (hl : n ≤ 1048576) (hq : ∀ q ∈ Q, q.l ≤ 1048576 ∧ ∀ s ∈ q.ss, s.size ≤ 1048576) (hT : Tabs w) :
    Calls Tryz.prog 20 #[.slice a n c] w fun e w' => e = .returned (.bool (rowsOk (ssOf Q))) ∧ Below w.heap.size w w' := by
  have HA := Lib.hid (show Calls Tryz.prog 29 #[.slice a n c, .func (.func 30) #[] #[]] w fun e w' => e = .returned (.bool (!rowsOk (ssOf Q))) ∧ Below w.heap.size w w' by
    go_enter Tryz.func29, Tryz.ntmps29
    go_wp2_with fail
    refine (idxRows_any a c n Q _ h hn hl hq hT).mono ?_
    rintro e w1 ⟨v, rfl, hv, hb⟩
    go_wp2
    go_ret
    rw [← hv]
    exact ⟨rfl, hb⟩)
  go_enter Tryz.func20, Tryz.ntmps20
  go_wp2_with fail
  refine HA.out.mono ?_
  rintro e w1 ⟨rfl, hb⟩
  go_wp2
  go_ret
  refine ⟨?_, hb⟩
  simp
end Go.Proofs.YtobpecgecopdnaaGreatDoor

/-
  Slices of rows of strings: what a slice that is read holds; the laws' helpers szRowS, toRowS, eqRowS. Conditions: bounds.
-/
import Derived.Test.YtobpecgecopdnaaGreatDoorStrs
import Derived.Test.YtobpecgecopdnaaGreatDoorStrMarks
namespace Go.Proofs.YtobpecgecopdnaaGreatDoor
open Go.RowKit
set_option linter.unusedVariables false
set_option linter.unusedSimpArgs false

/-- a row of strings as a value: where it lies, how long, how much room, and what it holds -/
structure RowQ where
  a : Option Addr
  l : Nat
  c : Nat
  ss : List ByteArray
def RowQ.v (q : RowQ) : Value := .slice q.a q.l q.c
/-- a row that is read, in a block from B on -/
def RowSB (w : World) (B : Nat) (a : Option Addr) (l : List ByteArray) : Prop :=
  l = [] ∨ ∃ b off, a = some ⟨b, off, none⟩ ∧ B ≤ b ∧ b < w.heap.size ∧ ∀ i, i < l.length → w.cell? ⟨b, off + i, none⟩ = some (.string (l.getD i .empty))
theorem RowSB.row {w : World} {B : Nat} {a : Option Addr} {l : List ByteArray} (h : RowSB w B a l) : RowS w a l := by
  rcases h with h | ⟨b, off, h1, _, h2, h3⟩
  · exact .inl h
  · exact .inr ⟨b, off, h1, h2, h3⟩
theorem RowS.base {w : World} {a : Option Addr} {l : List ByteArray} (h : RowS w a l) : RowSB w 0 a l := by
  rcases h with h | ⟨b, off, h1, h2, h3⟩
  · exact .inl h
  · exact .inr ⟨b, off, h1, Nat.zero_le _, h2, h3⟩
theorem RowSB.below {w w' : World} {B : Nat} {a : Option Addr} {l : List ByteArray} (h : RowSB w B a l) (hb : Below w.heap.size w w') : RowSB w' B a l := by
  rcases h with h | ⟨b, off, rfl, hB, hlt, hc⟩
  · exact .inl h
  · exact .inr ⟨b, off, rfl, hB, Nat.lt_of_lt_of_le hlt hb.size, fun i hi => by rw [hb.cell (p := ⟨b, off + i, none⟩) hlt]; exact hc i hi⟩
theorem RowSB.setCell {w : World} {B : Nat} {a : Option Addr} {l : List ByteArray} (h : RowSB w B a l) {g j : Nat} (hg : g < B) (v : Value) : RowSB (w.setCell ⟨g, j, none⟩ v) B a l := by
  rcases h with h | ⟨b, off, rfl, hB, hlt, hc⟩
  · exact .inl h
  · exact .inr ⟨b, off, rfl, hB, by simpa [World.setCell] using hlt, fun i hi => by rw [World.cell?_setCell_other _ _ _ _ (by rintro ⟨⟩; omega)]; exact hc i hi⟩

/-- a slice of rows that is read -/
def RowR (w : World) (a : Option Addr) (Q : List RowQ) : Prop :=
  (Q = [] ∨ ∃ b off, a = some ⟨b, off, none⟩ ∧ b < w.heap.size ∧ ∀ i, (h : i < Q.length) → w.cell? ⟨b, off + i, none⟩ = some (Q[i]).v) ∧ ∀ q ∈ Q, RowS w q.a q.ss ∧ q.ss.length = q.l ∧ q.l ≤ q.c
theorem RowR.below {w w' : World} {a : Option Addr} {Q : List RowQ} (h : RowR w a Q) (hb : Below w.heap.size w w') : RowR w' a Q := by
  refine ⟨?_, fun q hq => ⟨(h.2 q hq).1.below hb, (h.2 q hq).2⟩⟩
  rcases h.1 with h | ⟨b, off, rfl, hlt, hc⟩
  · exact .inl h
  · exact .inr ⟨b, off, rfl, Nat.lt_of_lt_of_le hlt hb.size, fun i hi => by rw [hb.cell (p := ⟨b, off + i, none⟩) hlt]; exact hc i hi⟩
def ssOf (Q : List RowQ) : List (List ByteArray) := Q.map RowQ.ss

/-- the laws' measure of a slice of strings, on what is left -/
theorem szStringS_le (a : Option Addr) (cap n : Nat) (l : List ByteArray) (left : Int) (h0 : 0 ≤ left) (h1 : left ≤ 1048576) (w : World) (h : RowS w a l) (hn : l.length = n) (hm : n ≤ 9223372036854775807) (hsz : ∀ s ∈ l, s.size ≤ 9223372036854775807) :
    Calls Tryz.prog 16 #[.slice a n cap, .int .i64 left] w fun e w' => ∃ v : Int, e = .returned (.int .i64 v) ∧ (0 ≤ v → n ≤ 1048576 ∧ ∀ s ∈ l, s.size ≤ 1048576) ∧ v ≤ left ∧ -9223372036854775808 ≤ v ∧ Below w.heap.size w w' := by
  subst hn
  have HR := Lib.hid h
  have HS := Lib.hid hsz
  clear h hsz
  by_cases hbig : left < l.length
  · go_enter Tryz.func16, Tryz.ntmps16
    go_wp2
    go_ret
    exact ⟨-1, rfl, fun h => absurd h (by omega), by omega, by omega, Below.refl _ _⟩
  · go_enter Tryz.func16, Tryz.ntmps16
    go_wp2
    go_loopw [1, 5] (fun v i wr => ∃ (k : Nat) (x : Int), k ≤ l.length ∧ i = .int .i64 k ∧ v = .int .i64 x ∧ 0 ≤ x ∧ x ≤ left ∧ (∀ s ∈ l.take k, s.size ≤ 1048576) ∧ Below w.heap.size w wr) (fun _ i _ => l.length - (intOf i).toNat)
    case atStart => exact ⟨0, left - l.length, Nat.zero_le _, rfl, rfl, by omega, by omega, fun s hs => by simp at hs, Below.refl _ _⟩
    case round =>
      obtain ⟨k, x, hk, rfl, rfl, hx0, hx1, hsm, hb⟩ := hrel
      have HB := Lib.hid hb
      have HSM := Lib.hid hsm
      clear hb hsm
      by_cases hlt : k < l.length
      · have hR : RowS wr a l := HR.out.below HB.out
        rcases hR with h0 | ⟨b, off, rfl, hbl, hc⟩
        · rw [h0] at hlt; exact absurd hlt (Nat.not_lt_zero _)
        have hc0 := hc k hlt
        rw [getD_getS l k hlt] at hc0
        have hsk := HS.out _ (List.getElem_mem hlt)
        have htk : l.take (k + 1) = l.take k ++ [l[k]] := List.take_succ_eq_append_getElem hlt
        generalize l[k] = s at *
        have HTK := Lib.hid htk
        clear hc htk
        by_cases hneg : x - s.size < 0
        · go_wp2
          go_ret
          exact ⟨-1, rfl, fun h => absurd h (by omega), by omega, by omega, HB.out⟩
        · go_wp2
          refine ⟨⟨k + 1, x - s.size, by omega, by go_num, rfl, by omega, by omega, fun t ht => ?_, HB.out⟩, by simp [intOf]; omega⟩
          rw [HTK.out, List.mem_append] at ht
          rcases ht with ht | ht
          · exact HSM.out t ht
          · simp at ht
            subst ht
            omega
      · obtain rfl : k = l.length := by omega
        go_wp2
        go_ret
        refine ⟨x, rfl, fun _ => ⟨by omega, fun s hs => HSM.out s (by rw [List.take_of_length_le (Nat.le_refl _)]; exact hs)⟩, hx1, by omega, HB.out⟩
theorem szRow_le (q : RowQ) (left : Int) (h0 : 0 ≤ left) (h1 : left ≤ 1048576) (w : World) (h : RowS w q.a q.ss) (hn : q.ss.length = q.l) (hm : q.l ≤ 9223372036854775807) (hsz : ∀ s ∈ q.ss, s.size ≤ 9223372036854775807) :
    Calls Tryz.prog 9 #[.agg #[.slice q.a q.l q.c], .int .i64 left] w fun e w' => ∃ v : Int, e = .returned (.int .i64 v) ∧ (0 ≤ v → q.l ≤ 1048576 ∧ ∀ s ∈ q.ss, s.size ≤ 1048576) ∧ v ≤ left ∧ -9223372036854775808 ≤ v ∧ Below w.heap.size w w' := by
  have HA := Lib.hid (fun W (hb : Below w.heap.size w W) => szStringS_le q.a q.c q.l q.ss left h0 h1 W (h.below hb) hn hm hsz)
  clear h hsz
  go_enter Tryz.func9, Tryz.ntmps9
  go_wp2_with fail
  refine (HA.out _ ((Below.refl _ _).alloc (Nat.le_refl _) _)).mono ?_
  rintro e w1 ⟨v, rfl, hv, hv1, hv2, hb⟩
  have HV := Lib.hid hv
  have HB := Lib.hid (((Below.refl w.heap.size w).alloc (Nat.le_refl _) _).trans (hb.mono (by simp)))
  clear hv hb
  by_cases hneg : v < 0
  · go_wp2
    go_ret
    exact ⟨-1, rfl, fun h => absurd h (by omega), by omega, by omega, HB.out⟩
  · go_wp2
    go_ret
    exact ⟨v, rfl, HV.out, hv1, hv2, HB.out⟩
set_option maxHeartbeats 1000000 in
theorem szRowS_any (a : Option Addr) (cap n : Nat) (Q : List RowQ) (w : World) (h : RowR w a Q) (hn : Q.length = n) (hm : n ≤ 9223372036854775807) (hq : ∀ q ∈ Q, q.l ≤ 9223372036854775807 ∧ ∀ s ∈ q.ss, s.size ≤ 9223372036854775807) :
    Calls Tryz.prog 4 #[.slice a n cap, .int .i64 1048576] w fun e w' => ∃ v : Int, e = .returned (.int .i64 v) ∧ (0 ≤ v → n ≤ 1048576 ∧ ∀ q ∈ Q, q.l ≤ 1048576 ∧ ∀ s ∈ q.ss, s.size ≤ 1048576) ∧ Below w.heap.size w w' := by
  subst hn
  have HR := Lib.hid h
  have HS := Lib.hid hq
  clear h hq
  by_cases hbig : 1048576 < Q.length
  · have hb' : (1048576 : Int) < Q.length := by omega
    go_enter Tryz.func4, Tryz.ntmps4
    go_wp2
    go_ret
    exact ⟨-1, rfl, fun h => absurd h (by omega), Below.refl _ _⟩
  · have hb' : (Q.length : Int) ≤ 1048576 := by omega
    go_enter Tryz.func4, Tryz.ntmps4
    go_wp2
    go_loopw [1, 5] (fun v i wr => ∃ (k : Nat) (x : Int), k ≤ Q.length ∧ i = .int .i64 k ∧ v = .int .i64 x ∧ 0 ≤ x ∧ x ≤ 1048576 ∧ (∀ q ∈ Q.take k, q.l ≤ 1048576 ∧ ∀ s ∈ q.ss, s.size ≤ 1048576) ∧ Below w.heap.size w wr) (fun _ i _ => Q.length - (intOf i).toNat)
    case atStart => exact ⟨0, 1048576 - Q.length, Nat.zero_le _, rfl, rfl, by omega, by omega, fun s hs => by simp at hs, Below.refl _ _⟩
    case round =>
      obtain ⟨k, x, hk, rfl, rfl, hx0, hx1, hsm, hb⟩ := hrel
      have HB := Lib.hid hb
      have HSM := Lib.hid hsm
      clear hb hsm
      by_cases hlt : k < Q.length
      · have hR : RowR wr a Q := HR.out.below HB.out
        obtain ⟨hr1, hr2⟩ := hR
        rcases hr1 with h0 | ⟨b, off, rfl, hbl, hc⟩
        · rw [h0] at hlt; exact absurd hlt (Nat.not_lt_zero _)
        have hc0 := hc k hlt
        have hqk := hr2 _ (List.getElem_mem hlt)
        have hsk := HS.out _ (List.getElem_mem hlt)
        have htk : Q.take (k + 1) = Q.take k ++ [Q[k]] := List.take_succ_eq_append_getElem hlt
        generalize Q[k] = q at *
        have hcq : wr.cell? ⟨b, off + k, none⟩ = some (.slice q.a q.l q.c) := hc0
        have HTK := Lib.hid htk
        have HQ := Lib.hid (szRow_le q x hx0 hx1 wr hqk.1 hqk.2.1 hsk.1 hsk.2)
        clear hc hc0 htk hqk hsk hr2
        go_wp2_with fail
        refine HQ.out.mono ?_
        rintro e w2 ⟨v, rfl, hv, hv1, hv2, hb2⟩
        have HV := Lib.hid hv
        have HB2 := Lib.hid (HB.out.trans (hb2.mono HB.out.size))
        clear hv hb2
        by_cases hneg : v < 0
        · go_wp2
          go_ret
          exact ⟨-1, rfl, fun h => absurd h (by omega), HB2.out⟩
        · go_wp2
          refine ⟨⟨k + 1, v, by omega, by go_num, rfl, by omega, by omega, fun t ht => ?_, HB2.out⟩, by simp [intOf]; omega⟩
          rw [HTK.out, List.mem_append] at ht
          rcases ht with ht | ht
          · exact HSM.out t ht
          · simp at ht
            subst ht
            exact HV.out (by omega)
      · obtain rfl : k = Q.length := by omega
        go_wp2
        go_ret
        exact ⟨x, rfl, fun _ => ⟨by omega, fun s hs => HSM.out s (by rw [List.take_of_length_le (Nat.le_refl _)]; exact hs)⟩, HB.out⟩

theorem eqRow_same (q q' : RowQ) (w : World) (h : RowS w q.a q.ss) (h' : RowS w q'.a q.ss) (hn : q.ss.length = q.l) (hn' : q.ss.length = q'.l) (hl : q.l ≤ 1099511627776) :
    Calls Tryz.prog 15 #[.agg #[.slice q.a q.l q.c], .agg #[.slice q'.a q'.l q'.c]] w fun e w' => e = .returned (.bool true) ∧ Below w.heap.size w w' := by
  have HA := Lib.hid (fun W (hb : Below w.heap.size w W) => eqStringS_same q.a q'.a q.c q'.c q.ss W (h.below hb) (h'.below hb) (by omega))
  rw [hn] at HA
  have he : q'.l = q.l := by omega
  rw [he]
  clear h h' he hn'
  go_enter Tryz.func15, Tryz.ntmps15
  go_wp2_with fail
  refine (HA.out _ (((Below.refl _ _).alloc (Nat.le_refl _) _).alloc (by simp) _)).mono ?_
  rintro e w1 ⟨rfl, hb⟩
  have HB := Lib.hid ((((Below.refl w.heap.size w).alloc (Nat.le_refl _) _).alloc (by simp) _).trans (hb.mono (by simp; omega)))
  clear hb
  go_wp2
  go_ret
  exact ⟨rfl, HB.out⟩
set_option maxHeartbeats 1000000 in
/-- two slices of rows that hold the same -/
theorem eqRowS_same (a a' : Option Addr) (cap cap' n : Nat) (Q Q' : List RowQ) (w : World) (h : RowR w a Q) (h' : RowR w a' Q') (hn : Q.length = n) (hs : ssOf Q = ssOf Q') (hl : n ≤ 1099511627776) (hql : ∀ q ∈ Q, q.l ≤ 1099511627776) :
    Calls Tryz.prog 8 #[.slice a n cap, .slice a' n cap'] w fun e w' => e = .returned (.bool true) ∧ Below w.heap.size w w' := by
  have hne : ((n : Int) != (n : Int)) = false := by simp
  have hn' : Q'.length = n := by have := congrArg List.length hs; unfold ssOf at this; rw [List.length_map, List.length_map] at this; omega
  have HR := Lib.hid h
  have HR' := Lib.hid h'
  have HS := Lib.hid hs
  have HL := Lib.hid hql
  have HN := Lib.hid hn
  have HN' := Lib.hid hn'
  clear h h' hs hql hn hn'
  go_enter Tryz.func8, Tryz.ntmps8
  go_wp2
  go_loopw [5] (fun i wr => ∃ k : Nat, k ≤ n ∧ i = .int .i64 k ∧ Below w.heap.size w wr) (fun i _ => n - (intOf i).toNat)
  case atStart => exact ⟨0, Nat.zero_le _, rfl, Below.refl _ _⟩
  case round =>
    obtain ⟨k, hk, rfl, hb⟩ := hrel
    by_cases hlt : k < n
    · have hkQ : k < Q.length := by rw [HN.out]; exact hlt
      have hkQ' : k < Q'.length := by rw [HN'.out]; exact hlt
      have hq := HR.out.2 _ (List.getElem_mem hkQ)
      have hq' := HR'.out.2 _ (List.getElem_mem hkQ')
      have hll := HL.out _ (List.getElem_mem hkQ)
      have hss : (Q[k]).ss = (Q'[k]).ss := by
        have e : (ssOf Q)[k]? = (ssOf Q')[k]? := by rw [HS.out]
        unfold ssOf at e
        rw [List.getElem?_map, List.getElem?_map, List.getElem?_eq_getElem hkQ, List.getElem?_eq_getElem hkQ'] at e
        simpa using e
      obtain ⟨hc1, _⟩ := HR.out
      obtain ⟨hc2, _⟩ := HR'.out
      rcases hc1 with h0 | ⟨b, off, rfl, hbl, hc⟩
      · rw [h0] at hkQ; exact absurd hkQ (Nat.not_lt_zero _)
      rcases hc2 with h0 | ⟨b', off', rfl, hbl', hc'⟩
      · rw [h0] at hkQ'; exact absurd hkQ' (Nat.not_lt_zero _)
      have hc0 := hc k hkQ
      have hc0' := hc' k hkQ'
      rw [← hb.cell (p := ⟨b, off + k, none⟩) hbl] at hc0
      rw [← hb.cell (p := ⟨b', off' + k, none⟩) hbl'] at hc0'
      generalize Q[k] = q at *
      generalize Q'[k] = q' at *
      have hcq : wr.cell? ⟨b, off + k, none⟩ = some (.slice q.a q.l q.c) := hc0
      have hcq' : wr.cell? ⟨b', off' + k, none⟩ = some (.slice q'.a q'.l q'.c) := hc0'
      have HE := Lib.hid (fun W (hb2 : Below w.heap.size w W) => eqRow_same q q' W (hq.1.below hb2) (by rw [hss]; exact hq'.1.below hb2) hq.2.1 (by rw [hss]; exact hq'.2.1) hll)
      have hlt' : (k : Int) < n := by omega
      have h0' : (0 : Int) ≤ k := by omega
      clear hc hc' hc0 hc0' hq hq' hss hll hkQ hkQ'
      go_wp2
      go_region_held3 (fun w' => w'.cell? ⟨b, off + k, none⟩ = some (.slice q.a q.l q.c) ∧ w'.cell? ⟨b', off' + k, none⟩ = some (.slice q'.a q'.l q'.c)) (first | assumption | go_keep)
        (first
          | (go_at_call 15; refine (HE.out _ (by first | assumption | exact Below.drew (by assumption))).mono ?_; rintro e w5 ⟨rfl, hb5⟩; have hB5 := Below.trans (by first | assumption | exact Below.drew (by assumption)) (Below.mono hb5 (Below.size (by first | assumption | exact Below.drew (by assumption)))); have hc5 : w5.cell? ⟨b, off + k, none⟩ = some (.slice q.a q.l q.c) := (by have := hb5.cell (p := ⟨b, off + k, none⟩) (by first | assumption | exact cell_lt (by assumption)); rw [this]; assumption); have hc6 : w5.cell? ⟨b', off' + k, none⟩ = some (.slice q'.a q'.l q'.c) := (by have := hb5.cell (p := ⟨b', off' + k, none⟩) (by first | assumption | exact cell_lt (by assumption)); rw [this]; assumption); clear hb5))
      all_goals go_wp2
      all_goals exact ⟨⟨k + 1, by omega, by go_num, by assumption⟩, by simp [intOf]; omega⟩
    · obtain rfl : k = n := by omega
      go_wp2
      go_ret
      exact ⟨rfl, hb⟩

theorem infoRow : (Tryz.prog.info? 36).map (fun i => (i.zero, i.size, i.bytes)) = some (some (.agg #[.slice none 0 0]), 1, 24) := by kernel_rfl
theorem makeRows (n : Nat) (hn : n ≤ 1099511627 * 1000) (u : World) : (Instr.makeSlice 26 (.int .i64 (n : Int)) (.int .i64 (n : Int))).run Tryz.prog u =
      .ok (.slice (some ⟨u.heap.size, 0, none⟩) n n) (u.alloc (.cells (madeCells #[.slice none 0 0] n) 36)) := by
  obtain ⟨i0, hi, hz0, hz1, hz2⟩ := info_parts infoRow
  have h := run_make (P := Tryz.prog) u 26 36 i0 (.agg #[.slice none 0 0]) Tryz.underlying26 hi hz0 .i64 .i64 (n : Int) (n : Int) (by omega) (Int.le_refl _) (by rw [hz2]; omega) (by omega)
  simpa [hz1, Value.cells] using h
theorem laid_new (u : World) (v : Value) (t : TypeId) : ∃ w0, u.alloc (.cells #[v] t) = w0 ∧ w0.heap.size = u.heap.size + 1 ∧ Below u.heap.size u w0 ∧ w0.cell? ⟨u.heap.size, 0, none⟩ = some v ∧ w0.frozen? ⟨u.heap.size, 0, none⟩ = false :=
  ⟨_, rfl, by simp, (Below.refl _ _).alloc (Nat.le_refl _) _, by simp, by simp⟩
theorem rows_laid (w : World) (v x y : Value) (t1 t2 : TypeId) : ∃ u, ((w.alloc (.cells #[v] t1)).alloc (.cells #[x] t2)).alloc (.cells #[y] t2) = u ∧ u.heap.size = w.heap.size + 1 + 1 + 1 ∧ Below w.heap.size w u ∧ u.cell? ⟨w.heap.size, 0, none⟩ = some v ∧
    (u.cell? ⟨w.heap.size + 1, 0, none⟩ = some x ∧ u.frozen? ⟨w.heap.size + 1, 0, none⟩ = false) ∧ (u.cell? ⟨w.heap.size + 1 + 1, 0, none⟩ = some y ∧ u.frozen? ⟨w.heap.size + 1 + 1, 0, none⟩ = false) := by
  obtain ⟨u1, h1, s1, b1, c1, _⟩ := laid_new w v t1
  obtain ⟨u2, h2, s2, b2, c2, f2⟩ := laid_new u1 x t2
  obtain ⟨u3, h3, s3, b3, c3, f3⟩ := laid_new u2 y t2
  rw [s1] at c2 f2 s2
  rw [s2] at c3 f3 s3
  refine ⟨u3, by rw [h1, h2, h3], s3, (b1.trans (b2.mono b1.size)).trans (b3.mono (Nat.le_trans b1.size b2.size)), ?_, ⟨?_, ?_⟩, c3, f3⟩
  · rw [b3.cell (p := ⟨w.heap.size, 0, none⟩) (by show w.heap.size < _; omega), b2.cell (p := ⟨w.heap.size, 0, none⟩) (by show w.heap.size < _; omega)]; exact c1
  · rw [b3.cell (p := ⟨w.heap.size + 1, 0, none⟩) (by show w.heap.size + 1 < _; omega)]; exact c2
  · rw [b3.frozen (p := ⟨w.heap.size + 1, 0, none⟩) (by show w.heap.size + 1 < _; omega)]; exact f2
theorem toRow_any (q : RowQ) (w : World) (h : RowS w q.a q.ss) (hn : q.ss.length = q.l) (hl : q.l ≤ 1048576) :
    Calls Tryz.prog 12 #[.agg #[.slice q.a q.l q.c]] w fun e w' => ∃ g, e = .returned (.agg #[.slice (some ⟨g, 0, none⟩) q.l q.l]) ∧ w.heap.size ≤ g ∧ RowSB w' w.heap.size (some ⟨g, 0, none⟩) q.ss ∧ Below w.heap.size w w' := by
  have HA := Lib.hid (fun W (hb : Below w.heap.size w W) => toStringS_any q.a q.c q.ss W (h.below hb) (by omega))
  rw [hn] at HA
  clear h
  obtain ⟨u, hu, hsz, hbu, hc0, ⟨hc1, hf1⟩, hc2, hf2⟩ := rows_laid w (.slice q.a q.l q.c) (.slice none 0 0) (.slice none 0 0) 33 36
  go_enter Tryz.func12, Tryz.ntmps12
  go_wp2_with fail
  refine (HA.out _ hbu).mono ?_
  rintro e w1 ⟨g, rfl, hg, hr, hb⟩
  rw [hn]
  rw [← hb.cell (p := ⟨w.heap.size + 1, 0, none⟩) (by show w.heap.size + 1 < _; omega)] at hc1
  rw [← hb.cell (p := ⟨w.heap.size + 1 + 1, 0, none⟩) (by show w.heap.size + 1 + 1 < _; omega)] at hc2
  rw [← hb.frozen (p := ⟨w.heap.size + 1, 0, none⟩) (by show w.heap.size + 1 < _; omega)] at hf1
  rw [← hb.frozen (p := ⟨w.heap.size + 1 + 1, 0, none⟩) (by show w.heap.size + 1 + 1 < _; omega)] at hf2
  have hgl : w.heap.size + 3 ≤ g := by omega
  have hrb : RowSB w1 (w.heap.size + 3) (some ⟨g, 0, none⟩) q.ss := by
    rcases hr with h | ⟨b, off, h1, h2, h3⟩
    · exact .inl h
    · obtain ⟨rfl, rfl⟩ : g = b ∧ 0 = off := by simpa using h1
      exact .inr ⟨g, 0, rfl, hgl, h2, h3⟩
  have HRB := Lib.hid hrb
  have HBB := Lib.hid (hbu.trans (hb.mono (by omega)))
  clear hr hb hrb hg hbu hu hsz HA
  go_wp2
  refine bodyPost_ret (v := .agg #[.slice (some ⟨g, 0, none⟩) q.l q.l]) (by simp [results, Tryz.results12, go_sem, *]) rfl ?_
  refine ⟨g, rfl, by omega, ?_, (HBB.out.setCell (by show w.heap.size ≤ w.heap.size + 1 + 1; omega) _).setCell (by show w.heap.size ≤ w.heap.size + 1; omega) _⟩
  have h2 := (HRB.out.setCell (g := w.heap.size + 1 + 1) (j := 0) (by omega) (.slice (some ⟨g, 0, none⟩) q.l q.l)).setCell (g := w.heap.size + 1) (j := 0) (by omega) (.slice (some ⟨g, 0, none⟩) q.l q.l)
  rcases h2 with h | ⟨b, off, e1, e2, e3, e4⟩
  · exact .inl h
  · exact .inr ⟨b, off, e1, by omega, e3, e4⟩
theorem RowSB.mono {w : World} {B B' : Nat} {a : Option Addr} {l : List ByteArray} (h : RowSB w B a l) (hB : B' ≤ B) : RowSB w B' a l := by
  rcases h with h | ⟨b, off, e1, e2, e3, e4⟩
  · exact .inl h
  · exact .inr ⟨b, off, e1, Nat.le_trans hB e2, e3, e4⟩
theorem Fill.call {w wr w2 : World} {g n : Nat} {f : Nat → Value} (h : Fill w wr g n f) (hb : Below wr.heap.size wr w2) : Fill w w2 g n f :=
  ⟨h.below.trans (hb.mono h.below.size), h.lo, Nat.lt_of_lt_of_le h.hi hb.size, fun j hj => by rw [hb.cell (p := ⟨g, j, none⟩) h.hi]; exact h.cell j hj, fun j hj => by rw [hb.frozen (p := ⟨g, j, none⟩) h.hi]; exact h.free j hj⟩
/-- what toRowS leaves: a new row of new rows that hold the same -/
def MadeRows (w : World) (Q : List RowQ) (e : Ending) (w' : World) : Prop :=
  ∃ (g : Nat) (Q' : List RowQ), e = .returned (.slice (some ⟨g, 0, none⟩) Q.length Q.length) ∧ RowR w' (some ⟨g, 0, none⟩) Q' ∧ ssOf Q' = ssOf Q ∧ Below w.heap.size w w'
set_option maxHeartbeats 1000000 in
theorem toRowS_any (a : Option Addr) (cap : Nat) (Q : List RowQ) (w : World) (h : RowR w a Q) (hl : Q.length ≤ 1048576) (hql : ∀ q ∈ Q, q.l ≤ 1048576) :
    Calls Tryz.prog 6 #[.slice a Q.length cap] w (MadeRows w Q) := by
  have hmk := makeRows Q.length (by omega)
  have hF := Fill.made w w (Below.refl _ _) (madeCells #[.slice none 0 0] Q.length) 36 (fun _ => .slice none 0 0) (fun j hj => madeStrs_get _ _ _ (by simpa [size_madeCells] using hj))
  rw [size_madeCells] at hF
  have HF := Lib.hid hF
  have HR := Lib.hid h
  have HL := Lib.hid hql
  clear hF h hql
  go_enter Tryz.func6, Tryz.ntmps6
  go_wp2
  go_loopw [4] (fun i wr => ∃ (k : Nat) (Q' : List RowQ), k ≤ Q.length ∧ i = .int .i64 k ∧ Q'.length = k ∧ ssOf Q' = ssOf (Q.take k) ∧ (∀ q ∈ Q', RowSB wr (w.heap.size + 1) q.a q.ss ∧ q.ss.length = q.l ∧ q.l ≤ q.c) ∧ Fill w wr w.heap.size Q.length (fun j => (Q'.map RowQ.v).getD j (.slice none 0 0))) (fun i _ => Q.length - (intOf i).toNat)
  case atStart => exact ⟨0, [], Nat.zero_le _, rfl, rfl, rfl, fun q hq => by simp at hq, HF.out⟩
  case round =>
    obtain ⟨k, Q', hk, rfl, hQk, hss, hrows, hfill⟩ := hrel
    have HI := Lib.hid hfill
    have HSS := Lib.hid hss
    have HRW := Lib.hid hrows
    have HQK := Lib.hid hQk
    clear hfill hss hrows hQk hmk
    by_cases hlt : k < Q.length
    · have hR : RowR wr a Q := HR.out.below HI.out.below
      obtain ⟨hr1, hr2⟩ := hR
      rcases hr1 with h0 | ⟨b, off, rfl, hbl, hc⟩
      · rw [h0] at hlt; exact absurd hlt (Nat.not_lt_zero _)
      have hc0 := hc k hlt
      have hqk := hr2 _ (List.getElem_mem hlt)
      have hlk := HL.out _ (List.getElem_mem hlt)
      have htk : Q.take (k + 1) = Q.take k ++ [Q[k]] := List.take_succ_eq_append_getElem hlt
      generalize Q[k] = q at *
      have hcq : wr.cell? ⟨b, off + k, none⟩ = some (.slice q.a q.l q.c) := hc0
      have HTK := Lib.hid htk
      have HQ := Lib.hid (toRow_any q wr hqk.1 hqk.2.1 hlk)
      have hqn := hqk.2.1
      clear hc hc0 htk hqk hr2
      go_wp2_with fail
      refine HQ.out.mono ?_
      rintro e w2 ⟨g2, rfl, hg2, hrb, hb2⟩
      have HI2 := Lib.hid (HI.out.call hb2)
      have HRW2 := Lib.hid (fun q hq => (⟨(HRW.out q hq).1.below hb2, (HRW.out q hq).2⟩ : RowSB w2 (w.heap.size + 1) q.a q.ss ∧ q.ss.length = q.l ∧ q.l ≤ q.c))
      have HRB := Lib.hid (hrb.mono (show w.heap.size + 1 ≤ wr.heap.size from HI.out.hi))
      have hs0 := HI2.out.cell k hlt
      have hf0 := HI2.out.free k hlt
      have hgd : (Q'.map RowQ.v).getD k (.slice none 0 0) = .slice none 0 0 := by
        rw [List.getD_eq_getElem?_getD, List.getElem?_eq_none (by rw [List.length_map, HQK.out]; exact Nat.le_refl _)]
        rfl
      have hs1 : w2.cell? ⟨w.heap.size, k, none⟩ = some (.slice none 0 0) := by rw [hs0, hgd]
      clear hs0 hgd hb2 hrb
      go_wp2
      go_light
      refine ⟨⟨k + 1, Q' ++ [⟨some ⟨g2, 0, none⟩, q.l, q.l, q.ss⟩], by omega, by go_num, by rw [List.length_append, HQK.out]; rfl, ?_, fun t ht => ?_, ?_⟩, by simp [intOf]; omega⟩
      · unfold ssOf at *
        rw [HTK.out, List.map_append, List.map_append, HSS.out]
        rfl
      · rw [List.mem_append] at ht
        rcases ht with ht | ht
        · exact ⟨(HRW2.out t ht).1.setCell (by omega) _, (HRW2.out t ht).2⟩
        · simp at ht
          subst ht
          exact ⟨HRB.out.setCell (by omega) _, hqn, Nat.le_refl _⟩
      · refine (HI2.out.store hlt (.slice (some ⟨g2, 0, none⟩) q.l q.l)).congr ?_
        intro j hj
        rw [List.map_append, List.getD_eq_getElem?_getD, List.getD_eq_getElem?_getD]
        by_cases e : j = k
        · subst e
          rw [if_pos rfl, List.getElem?_append_right (by rw [List.length_map, HQK.out]; exact Nat.le_refl _), List.length_map, HQK.out, Nat.sub_self]
          rfl
        · rw [if_neg e]
          by_cases e1 : j < k
          · rw [List.getElem?_append_left (by rw [List.length_map, HQK.out]; exact e1)]
          · rw [List.getElem?_eq_none (by rw [List.length_map, HQK.out]; omega), List.getElem?_eq_none (by rw [List.length_append, List.length_map, HQK.out]; simp; omega)]
    · obtain rfl : k = Q.length := by omega
      go_wp2
      go_ret
      refine ⟨w.heap.size, Q', rfl, ⟨?_, fun q hq => ⟨(HRW.out q hq).1.row, (HRW.out q hq).2⟩⟩, ?_, HI.out.below⟩
      · right
        refine ⟨w.heap.size, 0, rfl, HI.out.hi, fun i hi => ?_⟩
        rw [Nat.zero_add, HI.out.cell i (by rw [← HQK.out]; exact hi)]
        rw [List.getD_eq_getElem?_getD, List.getElem?_map, List.getElem?_eq_getElem hi]
        rfl
      · rw [HSS.out, List.take_of_length_le (Nat.le_refl _)]
end Go.Proofs.YtobpecgecopdnaaGreatDoor

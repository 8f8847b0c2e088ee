/-
  Slices of a pattern's nodes: what a slice that is read holds; the laws' helpers szRxNodeS, eqRxNodeS. Conditions: bounds.
-/
import Derived.Test.YtpolpihgclemnaaDoorIntsLaw
import Derived.Deep.RegionHeld3
namespace Go.Proofs.YtpolpihgclemnaaDoor
open Go.RowKit
set_option linter.unusedVariables false
set_option linter.unusedSimpArgs false

/-- an node as it lies in memory -/
structure NdQ where
  op : Int
  a : Int
  b : Int
  neg : Bool
  sa : Option Addr
  sl : Nat
  sc : Nat
  set : List Int
  ka : Option Addr
  kl : Nat
  kc : Nat
  kids : List Int
/-- .. and what it says -/
def NdQ.val (q : NdQ) : Int × Int × Int × Bool × List Int × List Int := (q.op, q.a, q.b, q.neg, q.set, q.kids)
abbrev NdQ.agg (q : NdQ) : Value := .agg #[.int .i64 q.op, .int .i64 q.a, .int .i64 q.b, .bool q.neg, .slice q.sa q.sl q.sc, .slice q.ka q.kl q.kc]
/-- six cells -/
def NdCells (w : World) (b off : Nat) (q : NdQ) : Prop :=
  w.cell? ⟨b, off, none⟩ = some (.int .i64 q.op) ∧ w.cell? ⟨b, off + 1, none⟩ = some (.int .i64 q.a) ∧ w.cell? ⟨b, off + 2, none⟩ = some (.int .i64 q.b) ∧ w.cell? ⟨b, off + 3, none⟩ = some (.bool q.neg) ∧ w.cell? ⟨b, off + 4, none⟩ = some (.slice q.sa q.sl q.sc) ∧ w.cell? ⟨b, off + 5, none⟩ = some (.slice q.ka q.kl q.kc)
theorem NdCells.below {w w' : World} {b off : Nat} {q : NdQ} (h : NdCells w b off q) (hb : Below w.heap.size w w') (hlt : b < w.heap.size) : NdCells w' b off q := by
  obtain ⟨c, -⟩ := bcell hb
  unfold NdCells at *
  rw [c _ _ hlt, c _ _ hlt, c _ _ hlt, c _ _ hlt, c _ _ hlt, c _ _ hlt]
  exact h
def Nd64 (x : Int) : Prop := -9223372036854775808 ≤ x ∧ x ≤ 9223372036854775807
/-- what stands with each node -/
def NdFine (w : World) (q : NdQ) : Prop := (RowI .i64 w q.sa q.set ∧ RowI .i64 w q.ka q.kids) ∧ (q.set.length = q.sl ∧ q.kids.length = q.kl) ∧ (q.sl ≤ q.sc ∧ q.kl ≤ q.kc) ∧ Nd64 q.op ∧ Nd64 q.a ∧ Nd64 q.b ∧ (∀ x ∈ q.set, Nd64 x) ∧ ∀ x ∈ q.kids, Nd64 x
theorem NdFine.below {w w' : World} {q : NdQ} (h : NdFine w q) (hb : Below w.heap.size w w') : NdFine w' q := ⟨⟨h.1.1.below hb, h.1.2.below hb⟩, h.2⟩
/-- a slice of nodes that is read -/
def NdR (w : World) (a : Option Addr) (Q : List NdQ) : Prop :=
  (Q = [] ∨ ∃ b off, a = some ⟨b, off, none⟩ ∧ b < w.heap.size ∧ ∀ i, (h : i < Q.length) → NdCells w b (off + i * 6) Q[i]) ∧ ∀ q ∈ Q, NdFine w q
theorem NdR.below {w w' : World} {a : Option Addr} {Q : List NdQ} (h : NdR w a Q) (hb : Below w.heap.size w w') : NdR w' a Q := by
  refine ⟨?_, fun q hq => (h.2 q hq).below hb⟩
  rcases h.1 with h | ⟨b, off, rfl, hlt, hc⟩
  · exact .inl h
  · exact .inr ⟨b, off, rfl, Nat.lt_of_lt_of_le hlt hb.size, fun i hi => (hc i hi).below hb hlt⟩
def ndsOf (Q : List NdQ) := Q.map NdQ.val

theorem szIntS_lim (a : Option Addr) (cap n : Nat) (left : Int) (h0 : 0 ≤ left) (h1 : left ≤ 1048576) (hm : n ≤ 9223372036854775807) (w : World) :
    Calls Tryd.prog 25 #[.slice a n cap, .int .i64 left] w fun e w' => ∃ v : Int, e = .returned (.int .i64 v) ∧ (0 ≤ v → n ≤ 1048576) ∧ v ≤ left ∧ Nd64 v ∧ w' = w := by
  by_cases hbig : left < n
  · go_enter Tryd.func25, Tryd.ntmps25
    go_wp2
    go_ret
    exact ⟨-1, rfl, fun h => absurd h (by omega), by omega, by unfold Nd64; omega, rfl⟩
  · go_enter Tryd.func25, Tryd.ntmps25
    go_wp2
    go_ret
    exact ⟨left - n, rfl, fun _ => by omega, by omega, by unfold Nd64; omega, rfl⟩
theorem szRxNode_le (q : NdQ) (left : Int) (h0 : 0 ≤ left) (h1 : left ≤ 1048576) (hm : q.sl ≤ 9223372036854775807 ∧ q.kl ≤ 9223372036854775807) (w : World) :
    Calls Tryd.prog 17 #[q.agg, .int .i64 left] w fun e w' => ∃ v : Int, e = .returned (.int .i64 v) ∧ (0 ≤ v → q.sl ≤ 1048576 ∧ q.kl ≤ 1048576) ∧ v ≤ left ∧ Nd64 v ∧ Below w.heap.size w w' := by
  obtain ⟨hm1, hm2⟩ := hm
  have HA := Lib.hid (fun W => szIntS_lim q.sa q.sc q.sl left h0 h1 hm1 W)
  go_enter Tryd.func17, Tryd.ntmps17
  go_wp2_with fail
  refine (HA.out _).mono ?_
  rintro e w1 ⟨v, rfl, hv, hv1, hv2, rfl⟩
  have HV := Lib.hid hv
  have HV2 := Lib.hid hv2
  obtain ⟨hv3, hv4⟩ := hv2
  clear hv
  by_cases hneg : v < 0
  · go_wp2
    go_ret
    exact ⟨-1, rfl, fun h => absurd h (by omega), by omega, by unfold Nd64; omega, (Below.refl _ _).alloc (Nat.le_refl _) _⟩
  · have HA2 := Lib.hid (fun W => szIntS_lim q.ka q.kc q.kl v (by omega) (by omega) hm2 W)
    go_wp2_with fail
    refine (HA2.out _).mono ?_
    rintro e w2 ⟨x, rfl, hx, hx1, hx2, rfl⟩
    have HX := Lib.hid hx
    have HX2 := Lib.hid hx2
    obtain ⟨hx3, hx4⟩ := hx2
    clear hx
    by_cases hneg2 : x < 0
    · go_wp2
      go_ret
      exact ⟨-1, rfl, fun h => absurd h (by omega), by omega, by unfold Nd64; omega, (Below.refl _ _).alloc (Nat.le_refl _) _⟩
    · go_wp2
      go_ret
      exact ⟨x, rfl, fun h => ⟨HV.out (by omega), HX.out h⟩, by omega, HX2.out, (Below.refl _ _).alloc (Nat.le_refl _) _⟩
set_option maxHeartbeats 1000000 in
theorem szRxNodeS_any (a : Option Addr) (cap n : Nat) (Q : List NdQ) (w : World) (h : NdR w a Q) (hn : Q.length = n) (hm : n ≤ 9223372036854775807) (hq : ∀ q ∈ Q, q.sl ≤ 9223372036854775807 ∧ q.kl ≤ 9223372036854775807) :
    Calls Tryd.prog 9 #[.slice a n cap, .int .i64 1048576] w fun e w' => ∃ v : Int, e = .returned (.int .i64 v) ∧ (0 ≤ v → n ≤ 1048576 ∧ ∀ q ∈ Q, q.sl ≤ 1048576 ∧ q.kl ≤ 1048576) ∧ Nd64 v ∧ Below w.heap.size w w' := by
  subst hn
  have HR := Lib.hid h
  have HS := Lib.hid hq
  clear h hq
  by_cases hbig : 1048576 < Q.length
  · have hb' : (1048576 : Int) < Q.length := by omega
    go_enter Tryd.func9, Tryd.ntmps9
    go_wp2
    go_ret
    exact ⟨-1, rfl, fun h => absurd h (by omega), by unfold Nd64; omega, Below.refl _ _⟩
  · have hb' : (Q.length : Int) ≤ 1048576 := by omega
    go_enter Tryd.func9, Tryd.ntmps9
    go_wp2
    go_loopw [1, 5] (fun v i wr => ∃ (k : Nat) (x : Int), k ≤ Q.length ∧ i = .int .i64 k ∧ v = .int .i64 x ∧ 0 ≤ x ∧ x ≤ 1048576 ∧ (∀ q ∈ Q.take k, q.sl ≤ 1048576 ∧ q.kl ≤ 1048576) ∧ Below w.heap.size w wr) (fun _ i _ => Q.length - (intOf i).toNat)
    case atStart => exact ⟨0, 1048576 - Q.length, Nat.zero_le _, rfl, rfl, by omega, by omega, fun s hs => by simp at hs, Below.refl _ _⟩
    case round =>
      obtain ⟨k, x, hk, rfl, rfl, hx0, hx1, hsm, hb⟩ := hrel
      have HB := Lib.hid hb
      have HSM := Lib.hid hsm
      clear hb hsm
      by_cases hlt : k < Q.length
      · have hR : NdR wr a Q := HR.out.below HB.out
        obtain ⟨hr1, hr2⟩ := hR
        rcases hr1 with h0 | ⟨b, off, rfl, hbl, hc⟩
        · rw [h0] at hlt; exact absurd hlt (Nat.not_lt_zero _)
        have hc0 := hc k hlt
        have hsk := HS.out _ (List.getElem_mem hlt)
        have htk : Q.take (k + 1) = Q.take k ++ [Q[k]] := List.take_succ_eq_append_getElem hlt
        generalize Q[k] = q at *
        obtain ⟨d0, d1, d2, d3, d4, d5⟩ := hc0
        have HTK := Lib.hid htk
        have HQ := Lib.hid (szRxNode_le q x hx0 hx1 hsk wr)
        clear hc htk hsk hr2
        go_wp2_with fail
        refine HQ.out.mono ?_
        rintro e w2 ⟨v, rfl, hv, hv1, hv2, hb2⟩
        have HV := Lib.hid hv
        have HB2 := Lib.hid (HB.out.trans (hb2.mono HB.out.size))
        obtain ⟨hv3, hv4⟩ := hv2
        clear hv hb2
        by_cases hneg : v < 0
        · go_wp2
          go_ret
          exact ⟨-1, rfl, fun h => absurd h (by omega), by unfold Nd64; omega, HB2.out⟩
        · go_wp2
          refine ⟨⟨k + 1, v, by omega, by go_num, rfl, by omega, by omega, fun t ht => ?_, HB2.out⟩, by simp [intOf]; omega⟩
          rw [HTK.out, List.mem_append] at ht
          rcases ht with ht | ht
          · exact HSM.out t ht
          · simp at ht
            subst ht
            exact HV.out (by omega)
      · obtain rfl : k = Q.length := by omega
        go_wp2
        go_ret
        exact ⟨x, rfl, fun _ => ⟨by omega, fun s hs => HSM.out s (by rw [List.take_of_length_le (Nat.le_refl _)]; exact hs)⟩, by unfold Nd64; omega, HB.out⟩

theorem eqRxNode_same (q q' : NdQ) (w : World) (h : NdFine w q) (h' : NdFine w q') (hv : q.val = q'.val) (hl : q.sl ≤ 1048576 ∧ q.kl ≤ 1048576) :
    Calls Tryd.prog 24 #[q.agg, q'.agg] w fun e w' => e = .returned (.bool true) ∧ Below w.heap.size w w' := by
  obtain ⟨op, a, b, neg, sa, sl, sc, set, ka, kl, kc, kids⟩ := q
  obtain ⟨op', a', b', neg', sa', sl', sc', set', ka', kl', kc', kids'⟩ := q'
  unfold NdQ.val at hv
  simp only [Prod.mk.injEq] at hv
  obtain ⟨rfl, rfl, rfl, rfl, rfl, rfl⟩ := hv
  obtain ⟨⟨h1, g1⟩, ⟨h2, g2⟩, -⟩ := h
  obtain ⟨⟨h1', g1'⟩, ⟨h2', g2'⟩, -⟩ := h'
  obtain ⟨hl1, hl2⟩ := hl
  simp only [] at h1 h2 h1' h2' g1 g2 g1' g2' hl1 hl2
  subst h2
  subst h2'
  subst g2
  subst g2'
  have HA := Lib.hid (fun W (hb : Below w.heap.size w W) => eqIntS_same sa sa' sc sc' set W (h1.below hb) (h1'.below hb) (by omega))
  have HK := Lib.hid (fun W (hb : Below w.heap.size w W) => eqIntS_same ka ka' kc kc' kids W (g1.below hb) (g1'.below hb) (by omega))
  have n1 : (op != op) = false := by simp
  have n2 : (a != a) = false := by simp
  have n3 : (b != b) = false := by simp
  have n4 : (neg != neg) = false := by simp
  clear h1 h1' g1 g1'
  obtain ⟨u, hu, hsu, hbu, ⟨c0, c1, c2, c3, c4, c5⟩, d0, d1, d2, d3, d4, d5⟩ : ∃ u, (w.alloc (.cells #[.int .i64 op, .int .i64 a, .int .i64 b, .bool neg, .slice sa set.length sc, .slice ka kids.length kc] 38)).alloc (.cells #[.int .i64 op, .int .i64 a, .int .i64 b, .bool neg, .slice sa' set.length sc', .slice ka' kids.length kc'] 38) = u ∧ u.heap.size = w.heap.size + 1 + 1 ∧ Below w.heap.size w u ∧
      NdCells u w.heap.size 0 ⟨op, a, b, neg, sa, set.length, sc, set, ka, kids.length, kc, kids⟩ ∧ NdCells u (w.heap.size + 1) 0 ⟨op, a, b, neg, sa', set.length, sc', set, ka', kids.length, kc', kids⟩ := ⟨_, rfl, by simp, ((Below.refl _ _).alloc (Nat.le_refl _) _).alloc (by simp) _, by unfold NdCells; simp, by unfold NdCells; simp⟩
  simp only [Nat.zero_add] at c0 c1 c2 c3 c4 c5 d0 d1 d2 d3 d4 d5
  have hlt : w.heap.size < u.heap.size := by omega
  have hlt1 : w.heap.size + 1 < u.heap.size := by omega
  go_enter Tryd.func24, Tryd.ntmps24
  go_wp2_with fail
  refine (HA.out _ hbu).mono ?_
  rintro e w1 ⟨rfl, hb⟩
  obtain ⟨bc, -⟩ := bcell hb
  rw [← bc _ _ hlt] at c4 c5
  rw [← bc _ _ hlt1] at d4 d5
  have HB := Lib.hid (hbu.trans (hb.mono hbu.size))
  clear hb bc c0 c1 c2 c3 d0 d1 d2 d3 hbu hu
  go_wp2_with fail
  refine (HK.out _ HB.out).mono ?_
  rintro e w2 ⟨rfl, hb⟩
  have HB2 := Lib.hid (HB.out.trans (hb.mono HB.out.size))
  clear hb
  go_wp2
  go_ret
  exact ⟨rfl, HB2.out⟩
set_option maxHeartbeats 2000000 in
/-- two slices of nodes that say the same -/
theorem eqRxNodeS_same (a a' : Option Addr) (cap cap' n : Nat) (Q Q' : List NdQ) (w : World) (h : NdR w a Q) (h' : NdR w a' Q') (hn : Q.length = n) (hs : ndsOf Q = ndsOf Q') (hl : n ≤ 1099511627776) (hql : ∀ q ∈ Q, q.sl ≤ 1048576 ∧ q.kl ≤ 1048576) :
    Calls Tryd.prog 16 #[.slice a n cap, .slice a' n cap'] w fun e w' => e = .returned (.bool true) ∧ Below w.heap.size w w' := by
  have hne : ((n : Int) != (n : Int)) = false := by simp
  have hn' : Q'.length = n := by have := congrArg List.length hs; unfold ndsOf at this; rw [List.length_map, List.length_map] at this; omega
  have HR := Lib.hid h
  have HR' := Lib.hid h'
  have HS := Lib.hid hs
  have HL := Lib.hid hql
  have HN := Lib.hid hn
  have HN' := Lib.hid hn'
  clear h h' hs hql hn hn'
  go_enter Tryd.func16, Tryd.ntmps16
  go_wp2
  go_loopw [5] (fun i wr => ∃ k : Nat, k ≤ n ∧ i = .int .i64 k ∧ Below w.heap.size w wr) (fun i _ => n - (intOf i).toNat)
  case atStart => exact ⟨0, Nat.zero_le _, rfl, Below.refl _ _⟩
  case round =>
    obtain ⟨k, hk, rfl, hb⟩ := hrel
    by_cases hlt : k < n
    · have hkQ : k < Q.length := by rw [HN.out]; exact hlt
      have hkQ' : k < Q'.length := by rw [HN'.out]; exact hlt
      have hq := HR.out.2 _ (List.getElem_mem hkQ)
      have hq' := HR'.out.2 _ (List.getElem_mem hkQ')
      have hll := HL.out _ (List.getElem_mem hkQ)
      have hss : (Q[k]).val = (Q'[k]).val := by
        have e : (ndsOf Q)[k]? = (ndsOf Q')[k]? := by rw [HS.out]
        unfold ndsOf at e
        rw [List.getElem?_map, List.getElem?_map, List.getElem?_eq_getElem hkQ, List.getElem?_eq_getElem hkQ'] at e
        simpa using e
      obtain ⟨hc1, _⟩ := HR.out
      obtain ⟨hc2, _⟩ := HR'.out
      rcases hc1 with h0 | ⟨b, off, rfl, hbl, hc⟩
      · rw [h0] at hkQ; exact absurd hkQ (Nat.not_lt_zero _)
      rcases hc2 with h0 | ⟨b', off', rfl, hbl', hc'⟩
      · rw [h0] at hkQ'; exact absurd hkQ' (Nat.not_lt_zero _)
      have hc0 := (hc k hkQ).below hb hbl
      have hc0' := (hc' k hkQ').below hb hbl'
      generalize Q[k] = q at *
      generalize Q'[k] = q' at *
      obtain ⟨d0, d1, d2, d3, d4, d5⟩ := hc0
      obtain ⟨f0, f1, f2, f3, f4, f5⟩ := hc0'
      have hbw : b < wr.heap.size := Nat.lt_of_lt_of_le hbl hb.size
      have hbw' : b' < wr.heap.size := Nat.lt_of_lt_of_le hbl' hb.size
      have HE := Lib.hid (fun W (hb2 : Below w.heap.size w W) => eqRxNode_same q q' W (hq.below hb2) (hq'.below hb2) hss hll)
      have hlt' : (k : Int) < n := by omega
      have h0' : (0 : Int) ≤ k := by omega
      clear hc hc' hq hq' hss hll hkQ hkQ'
      go_wp2
      go_region_held3 (fun w' => (w'.cell? ⟨b, off + k * 6, none⟩ = some (.int .i64 q.op) ∧ w'.cell? ⟨b, off + k * 6 + 1, none⟩ = some (.int .i64 q.a) ∧ w'.cell? ⟨b, off + k * 6 + 2, none⟩ = some (.int .i64 q.b) ∧ w'.cell? ⟨b, off + k * 6 + 3, none⟩ = some (.bool q.neg) ∧ w'.cell? ⟨b, off + k * 6 + 4, none⟩ = some (.slice q.sa q.sl q.sc) ∧ w'.cell? ⟨b, off + k * 6 + 5, none⟩ = some (.slice q.ka q.kl q.kc)) ∧ (w'.cell? ⟨b', off' + k * 6, none⟩ = some (.int .i64 q'.op) ∧ w'.cell? ⟨b', off' + k * 6 + 1, none⟩ = some (.int .i64 q'.a) ∧ w'.cell? ⟨b', off' + k * 6 + 2, none⟩ = some (.int .i64 q'.b) ∧ w'.cell? ⟨b', off' + k * 6 + 3, none⟩ = some (.bool q'.neg) ∧ w'.cell? ⟨b', off' + k * 6 + 4, none⟩ = some (.slice q'.sa q'.sl q'.sc) ∧ w'.cell? ⟨b', off' + k * 6 + 5, none⟩ = some (.slice q'.ka q'.kl q'.kc))) (first | assumption | go_keep)
        (first
          | (go_at_call 24; refine (HE.out _ (by first | assumption | exact Below.drew (by assumption))).mono ?_; rintro e w5 ⟨rfl, hb5⟩; have hB5 := Below.trans (by first | assumption | exact Below.drew (by assumption)) (Below.mono hb5 (Below.size (by first | assumption | exact Below.drew (by assumption)))); have hk5 := (show NdCells w5 b (off + k * 6) q from NdCells.below (by first | exact ⟨d0, d1, d2, d3, d4, d5⟩ | exact ⟨by assumption, by assumption, by assumption, by assumption, by assumption, by assumption⟩) hb5 (by first | assumption | exact cell_lt (by assumption))); have hk6 := (show NdCells w5 b' (off' + k * 6) q' from NdCells.below (by first | exact ⟨f0, f1, f2, f3, f4, f5⟩ | exact ⟨by assumption, by assumption, by assumption, by assumption, by assumption, by assumption⟩) hb5 (by first | assumption | exact cell_lt (by assumption))); obtain ⟨g0, g1, g2, g3, g4, g5⟩ := hk5; obtain ⟨i0, i1, i2, i3, i4, i5⟩ := hk6; clear hb5))
      all_goals go_wp2
      all_goals exact ⟨⟨k + 1, by omega, by go_num, by assumption⟩, by simp [intOf]; omega⟩
    · obtain rfl : k = n := by omega
      go_wp2
      go_ret
      exact ⟨rfl, hb⟩
end Go.Proofs.YtpolpihgclemnaaDoor

/-
  Where the reference's automaton comes without reading: l07Come. Conditions: the automaton is sound, the marks lie in a block of their own.
-/
import Derived.Test.YtobpecgecopdnaaDoorNfaMarks
import Derived.Test.YtobpecgecopdnaaDoorOwns
import Derived.Test.YtobpecgecopdnaaDoorFill
import Derived.Test.YtobpecgecopdnaaDoorRunes
import Derived.Deep.CutBlock
namespace Go.Proofs.YtobpecgecopdnaaDoor
open Go.RowKit
set_option linter.unusedVariables false
set_option linter.unusedSimpArgs false

/-- a closing under way in memory -/
structure ComeI (u : World) (h n p L i : Nat) (V : List OpV) (M0 : Nat → Bool) (lv : Value) (wr : World) (st : List Nat) (M : Nat → Bool) : Prop where
  own : wr.ownsRow u.heap.size 3 1 lv st.length (st.map intV)
  mks : Marks wr h n (fun j => .bool (M j))
  most : Mostly h u wr
  clos : Clos (sucV V L) p M0 M st i
  lt : ∀ j ∈ st, j < n
  sum : st.length + 2 * unm n M ≤ 2 * n + 1
theorem lenV_own {w : World} {B : Nat} {e : TypeId} {v : Value} {n : Nat} {xs : List Value} (h : w.ownsRow B e 1 v n xs) : lenV v = n := by
  obtain ⟨a, c, rfl⟩ := ownsRow_slice h
  rfl
theorem ComeI.meas {u wr : World} {h n p L i : Nat} {V : List OpV} {M0 M : Nat → Bool} {lv : Value} {st : List Nat} (c : ComeI u h n p L i V M0 lv wr st M) : 2 * unm n (mOf isT wr h) + lenV lv = 2 * unm n M + st.length := by
  rw [lenV_own c.own, unm_of c.mks (M := M) (fun j _ => rfl)]
theorem ComeI.skip {u wr : World} {h n p L i j : Nat} {V : List OpV} {M0 M : Nat → Bool} {lv lv' : Value} {st : List Nat} (c : ComeI u h n p L i V M0 lv wr (st ++ [j]) M) (hj : M j = true) (own : wr.ownsRow u.heap.size 3 1 lv' st.length (st.map intV)) :
    ComeI u h n p L i V M0 lv' wr st M ∧ 2 * unm n (mOf isT wr h) + lenV lv' < 2 * unm n (mOf isT wr h) + lenV lv := by
  have h1 := lenV_own c.own
  have h2 := lenV_own own
  have h3 := c.sum
  rw [List.length_append] at h1 h3
  simp at h1 h3
  exact ⟨⟨own, c.mks, c.most, c.clos.skip hj, fun k hk => c.lt k (by simp [hk]), by omega⟩, by omega⟩
theorem ComeI.take {u wr w' : World} {h n p L i j : Nat} {V : List OpV} {M0 M : Nat → Bool} {lv lv' : Value} {st st2 : List Nat} (c : ComeI u h n p L i V M0 lv wr (st ++ [j]) M) (hj : M j = false) (hb : OpBd n j (opAt V j))
    (own : w'.ownsRow u.heap.size 3 1 lv' st2.length (st2.map intV)) (mk : Marks w' h n (fun x => if x = j then .bool true else .bool (M x))) (most : Mostly h u w') (hs : st2 = st ++ sucV V L p j) (hl : (sucV V L p j).length ≤ 2) :
    ComeI u h n p L i V M0 lv' w' st2 (mkd M j) ∧ 2 * unm n (mOf isT w' h) + lenV lv' < 2 * unm n (mOf isT wr h) + lenV lv := by
  subst hs
  have hjn : j < n := c.lt j (by simp)
  have h1 := c.meas
  have h3 := c.sum
  have h4 := unm_set hjn hj
  rw [List.length_append] at h1 h3
  simp at h1 h3
  have mk2 : Marks w' h n (fun x => .bool (mkd M j x)) := mk.congr fun x _ => by unfold mkd; split <;> rfl
  have hC : ComeI u h n p L i V M0 lv' w' (st ++ sucV V L p j) (mkd M j) := by
    refine ⟨own, mk2, most, c.clos.take fun k => List.mem_append, fun k hk => ?_, ?_⟩
    · rcases List.mem_append.1 hk with h5 | h5
      · exact c.lt k (by simp [h5])
      · exact suc_lt hb hjn h5
    · rw [List.length_append]; omega
  have h2 := hC.meas
  rw [List.length_append] at h2
  exact ⟨hC, by omega⟩
theorem suc_len (V : List OpV) (L p j : Nat) : (sucV V L p j).length ≤ 2 := by
  unfold sucV
  split
  · simp
  · split
    · simp
    · split <;> simp
section
variable {V : List OpV} {L p j : Nat} {op a b : Int} {neg : Bool} {set : List Int}
theorem suc_jump (h : opAt V j = (7, a, b, neg, set)) : sucV V L p j = [a.toNat] := by unfold sucV; rw [h]; rfl
theorem suc_split (h : opAt V j = (6, a, b, neg, set)) : sucV V L p j = [a.toNat, b.toNat] := by unfold sucV; rw [h]; rfl
theorem suc_next (h : opAt V j = (op, a, b, neg, set)) (ho : (op = 4 ∧ p = 0) ∨ (op = 5 ∧ p = L)) : sucV V L p j = [j + 1] := by
  unfold sucV
  rw [h]
  simp only []
  rw [if_neg (by omega), if_neg (by omega), if_pos ho]
theorem suc_none (h : opAt V j = (op, a, b, neg, set)) (h7 : op ≠ 7) (h6 : op ≠ 6) (ho : ¬ ((op = 4 ∧ p = 0) ∨ (op = 5 ∧ p = L))) : sucV V L p j = [] := by
  unfold sucV
  rw [h]
  simp only []
  rw [if_neg h7, if_neg h6, if_neg ho]
end

set_option maxHeartbeats 4000000 in
set_option maxRecDepth 20000 in
theorem l07Come_any (a : Option Addr) (cap n : Nat) (Q : List OpQ) (h i p L : Nat) (M0 : Nat → Bool) (w0 w : World) (hr : OpR w0 a Q) (hb0 : Below w0.heap.size w0 w) (hn : Q.length = n) (hbd : ∀ i, i < n → OpBd n i (opAt (valsOf Q) i)) (h4 : n ≤ 4000) (hi : i < n) (hm : Marks w h n (fun j => .bool (M0 j))) (hlo : w0.heap.size ≤ h)
    (hcl : ∀ j, M0 j = true → ∀ k ∈ sucV (valsOf Q) L p j, M0 k = true) :
    Calls Tryd.prog 44 #[.agg #[.slice a n cap], .int .i64 (i : Int), .int .i64 (p : Int), .int .i64 (L : Int), .slice (some ⟨h, 0, none⟩) n n] w fun e w' => e = .returned (.tuple #[]) ∧ ∃ M : Nat → Bool, Marks w' h n (fun j => .bool (M j)) ∧ Mostly h w w' ∧
      (∀ j, M j = true ↔ M0 j = true ∨ Rch (sucV (valsOf Q) L) p i j) ∧ ∀ j, M j = true → ∀ k ∈ sucV (valsOf Q) L p j, M k = true := by
  obtain ⟨i0, hi0, hz0, hz1, hz2⟩ := info_parts infoInt
  have HR := Lib.hid hr
  have HN := Lib.hid hn
  have HBDA := Lib.hid hbd
  obtain ⟨u, hu, hsz, hbu, hc0⟩ := nfa_box w (.slice a n cap) 32
  have HMU := Lib.hid (hm.below hbu)
  have HU := Lib.hid hbu
  have HB0 := Lib.hid (hb0.trans (hbu.mono hb0.size))
  have hlt := hm.lt
  have hw0 := hb0.size
  have HSZ := Lib.hid hsz
  have HSTART := Lib.hid (show ComeI u h n p L i (valsOf Q) M0 (.slice (some ⟨u.heap.size, 0, none⟩) 1 1) (u.alloc (.cells #[.int .i64 (i : Int)] 3)) [i] M0 from by
    refine ⟨ownsRow_one _ _ _ _ (Nat.le_refl _), (hm.below hbu).below ((Below.refl _ _).alloc (Nat.le_refl _) _), .of_below ((Below.refl _ _).alloc (Nat.le_refl _) _), .start hcl, fun j hj => ?_, ?_⟩
    · simp at hj; omega
    · have := unm_le n M0
      simp
      omega)
  clear hr hn hbd hm hbu hb0 hcl hsz
  go_enter Tryd.func44, Tryd.ntmps44
  go_wp2
  go_loopw [1, 10] (fun nv lv wr => ∃ (st : List Nat) (M : Nat → Bool) (x : Int), nv = .int .i64 x ∧ ComeI u h n p L i (valsOf Q) M0 lv wr st M) (fun _ lv wr => 2 * unm n (mOf isT wr h) + lenV lv)
  case atStart => exact ⟨_, _, _, rfl, HSTART.out⟩
  case round =>
    obtain ⟨st, M, x, rfl, hc⟩ := hrel
    have hbx : wr.cell? ⟨w.heap.size, 0, none⟩ = some (.slice a n cap) := by rw [hc.most.cell (by omega) (by have := HSZ.out; omega)]; exact hc0
    have hown := hc.own
    have HC := Lib.hid hc
    have HBW := Lib.hid (show Below w0.heap.size w0 wr from HB0.out.trans (hc.most.below hlo HB0.out.size))
    have hszu := hc.most.size
    have hsum := hc.sum
    obtain ⟨m, hm⟩ : ∃ m, st.length = m := ⟨_, rfl⟩
    rw [hm] at hown hsum
    clear hc hc0
    by_cases h0 : m = 0
    · subst h0
      have hst : st = [] := List.length_eq_zero_iff.1 hm
      subst hst
      obtain ⟨a1, c1, rfl⟩ := ownsRow_slice hown
      go_wp2
      go_end0
      obtain ⟨d1, d2⟩ := HC.out.clos.done
      exact ⟨rfl, M, HC.out.mks, (Mostly.of_below HU.out).trans HC.out.most, d1, d2⟩
    · obtain ⟨st', j, rfl, hm1⟩ := stack_last (st := st) (by omega)
      obtain ⟨m1, hm1'⟩ : ∃ m1, st'.length = m1 := ⟨_, rfl⟩
      rw [hm1', hm] at hm1
      subst hm1
      have HM1 := Lib.hid hm1'
      obtain ⟨g, c, rfl, hg⟩ := ownsRow_some hown (by omega)
      have hcap := (ownsRow_cap hown).1
      have hcj : wr.cell? ⟨g, m1, none⟩ = some (.int .i64 (j : Int)) := by
        rw [hown.cellAt m1 (by omega), List.map_append, List.getElem?_append_right (by simp [hm1'])]
        simp [hm1', intV]
      have htk := ownsRow_take hown (k := m1) (by omega) (by omega)
      rw [List.map_append, List.take_left' (by simp [hm1'])] at htk
      have hjn : j < n := HC.out.lt j (by simp)
      have hcm := HC.out.mks.cell j hjn
      have hfm := HC.out.mks.free j hjn
      have hgh : g ≠ h := by have := (hown.lt g rfl).1; have := HSZ.out; omega
      have hgl : g < wr.heap.size := (hown.lt g rfl).2
      have HTK0 := Lib.hid htk
      clear hown htk hm hm1' hg
      cases hMj : M j
      case true =>
        rw [hMj] at hcm
        obtain ⟨r1, r2⟩ := HC.out.skip hMj (by rw [HM1.out]; exact HTK0.out)
        have R1 := Lib.hid r1
        have R2 := Lib.hid r2
        clear r1 r2
        go_wp2
        exact ⟨⟨_, _, _, by first | rfl | trivial, R1.out⟩, R2.out⟩
      case false =>
        rw [hMj] at hcm
        obtain ⟨w1, hw1⟩ : ∃ w1, wr.setCell ⟨h, j, none⟩ (.bool true) = w1 := ⟨_, rfl⟩
        have hmk1 : Marks w1 h n (fun x => if x = j then .bool true else .bool (M x)) := by rw [← hw1]; exact HC.out.mks.set hjn _
        have hmo1 : Mostly h u w1 := by rw [← hw1]; exact HC.out.most.setCell _ _
        have hbw1 : Below w0.heap.size w0 w1 := HB0.out.trans (hmo1.below hlo HB0.out.size)
        have hbx1 : w1.cell? ⟨w.heap.size, 0, none⟩ = some (.slice a n cap) := by rw [← hw1, World.cell?_setCell_other _ _ _ _ (by rintro ⟨⟩; omega)]; exact hbx
        have hs1 : w1.heap.size = wr.heap.size := by rw [← hw1]; simp [World.setCell]
        have htk1 : w1.ownsRow u.heap.size 3 1 (.slice (some ⟨g, 0, none⟩) m1 c) m1 (st'.map intV) := by rw [← hw1]; exact ownsRow_setCell_other HTK0.out (by simpa [Value.ownBlock] using hgh) _
        have hjQ : j < Q.length := by rw [HN.out]; exact hjn
        obtain ⟨hr1, hr2⟩ := HR.out
        rcases hr1 with h9 | ⟨b, off, rfl, hbl, hcc⟩
        · rw [h9] at hjQ; exact absurd hjQ (Nat.not_lt_zero _)
        have hcq := (hcc j hjQ).below hbw1 hbl
        have hva : opAt (valsOf Q) j = (Q[j]).val := valsOf_get hjQ
        have HBD := Lib.hid (HBDA.out j hjn)
        have hbd := HBDA.out j hjn
        rw [hva] at hbd
        generalize Q[j] = q at *
        obtain ⟨op, qa, qb, neg, sa, sl, sc, set⟩ := q
        obtain ⟨d0, d1, d2, d3, d4⟩ := hcq
        simp only [] at d0 d1 d2 d3 d4
        have HVA := Lib.hid (show opAt (valsOf Q) j = (op, qa, qb, neg, set) from hva)
        obtain ⟨u5, hu5, s5, b5, ⟨c0, c1, c2, c3, c4⟩, hf5⟩ := laid5 w1 (.int .i64 op) (.int .i64 qa) (.int .i64 qb) (.bool neg) (.slice sa sl sc) 76
        rw [hs1] at c0 c1 c2 c3 c4 s5
        have HTK := Lib.hid (ownsRow_below htk1 b5)
        have HMK := Lib.hid (hmk1.below b5)
        have HMO := Lib.hid (hmo1.call b5)
        have HGH := Lib.hid hgh
        have hu5le := HMO.out.size
        clear s5
        have hm63 : ((m1 + 1 : Nat) : Int) - 1 = (m1 : Int) := by omega
        clear hva hcc hr2 hmk1 hmo1 hbw1 htk1 b5 hf5 hjQ
        obtain ⟨hb1, hb2, hb3, hb4, hb5⟩ := hbd
        simp only [OpQ.val] at hb1 hb2 hb3 hb4 hb5
        by_cases o7 : op = 7
        · subst o7
          obtain ⟨A, rfl⟩ := Int.eq_ofNat_of_zero_le (hb4 rfl).1
          · go_wp2_with (at_builtin; refine wpList_append_own _ rfl _ _ 49 rfl u.heap.size 3 i0 (.int .i64 0) 1 8 Tryd.underlying49 hi0 hz0 hz1 hz2 rfl (by decide) _ _ _ rfl (HTK.out.alloc _) ⟨u5.heap.size, 0, none⟩ 1 1 [.int .i64 (A : Int)] rfl rfl (cell_one_new _ _ _) (fun y hy => by simp at hy; subst hy; rfl) (by unfold maxLen; omega) (by omega) (by simp; omega) ?_; intro v2 w2 hown2 hgr2 hnil2; clear hnil2; obtain ⟨a2, c2, rfl⟩ := ownsRow_slice hown2; have HO2 := Lib.hid hown2; have HG2 := Lib.hid hgr2; clear hown2 hgr2)
            have hst := suc_jump (L := L) (p := p) HVA.out
            obtain ⟨r1, r2⟩ := HC.out.take (st2 := st' ++ [A]) (lv' := .slice a2 (m1 + 1) c2) (w' := w2) hMj HBD.out (by rw [List.length_append, HM1.out, List.map_append]; exact HO2.out) ((HMK.out.below ((Below.refl _ _).alloc (Nat.le_refl _) _)).grown HG2.out (fun e => HGH.out (Option.some.inj (show some g = some h from e.symm)))) (((HMO.out.call ((Below.refl _ _).alloc (Nat.le_refl _) _))).grown HG2.out (fun k hk => (HTK.out.lt k hk).1)) (by rw [hst] <;> rfl) (suc_len _ _ _ _)
            exact ⟨⟨_, _, _, by first | rfl | trivial, r1⟩, r2⟩
        by_cases o6 : op = 6
        · subst o6
          obtain ⟨A, rfl⟩ := Int.eq_ofNat_of_zero_le (hb5 rfl).1.1
          obtain ⟨B, rfl⟩ := Int.eq_ofNat_of_zero_le (hb5 rfl).2.1
          · go_wp2_with (at_builtin; refine wpList_append_own _ rfl _ _ 49 rfl u.heap.size 3 i0 (.int .i64 0) 1 8 Tryd.underlying49 hi0 hz0 hz1 hz2 rfl (by decide) _ _ _ rfl (HTK.out.alloc _) ⟨u5.heap.size, 0, none⟩ 2 2 [.int .i64 (A : Int), .int .i64 (B : Int)] rfl rfl (cell_two_new _ _ _ _) (fun y hy => by simp at hy; rcases hy with rfl | rfl <;> rfl) (by unfold maxLen; omega) (by omega) (by simp; omega) ?_; intro v2 w2 hown2 hgr2 hnil2; clear hnil2; obtain ⟨a2, c2, rfl⟩ := ownsRow_slice hown2; have HO2 := Lib.hid hown2; have HG2 := Lib.hid hgr2; clear hown2 hgr2)
            have hst := suc_split (L := L) (p := p) HVA.out
            obtain ⟨r1, r2⟩ := HC.out.take (st2 := st' ++ [A, B]) (lv' := .slice a2 (m1 + 2) c2) (w' := w2) hMj HBD.out (by rw [List.length_append, HM1.out, List.map_append]; exact HO2.out) ((HMK.out.below ((Below.refl _ _).alloc (Nat.le_refl _) _)).grown HG2.out (fun e => HGH.out (Option.some.inj (show some g = some h from e.symm)))) (((HMO.out.call ((Below.refl _ _).alloc (Nat.le_refl _) _))).grown HG2.out (fun k hk => (HTK.out.lt k hk).1)) (by rw [hst] <;> rfl) (suc_len _ _ _ _)
            exact ⟨⟨_, _, _, by first | rfl | trivial, r1⟩, r2⟩
        by_cases on : (op = 4 ∧ p = 0) ∨ (op = 5 ∧ p = L)
        · have hst := suc_next (L := L) (p := p) HVA.out on
          have HST := Lib.hid hst
          clear hst
          rcases on with ⟨o4, hp⟩ | ⟨o5, hp⟩
          · subst o4
            have hp1 : ((p : Int) == 0) = true := by rw [beq_iff_eq]; omega
            clear hp
            go_wp2_with (at_builtin; refine wpList_append_own _ rfl _ _ 49 rfl u.heap.size 3 i0 (.int .i64 0) 1 8 Tryd.underlying49 hi0 hz0 hz1 hz2 rfl (by decide) _ _ _ rfl (HTK.out.alloc _) ⟨u5.heap.size, 0, none⟩ 1 1 [.int .i64 ((j : Int) + 1)] rfl rfl (cell_one_new _ _ _) (fun y hy => by simp at hy; subst hy; rfl) (by unfold maxLen; omega) (by omega) (by simp; omega) ?_; intro v2 w2 hown2 hgr2 hnil2; clear hnil2; obtain ⟨a2, c2, rfl⟩ := ownsRow_slice hown2; have HO2 := Lib.hid hown2; have HG2 := Lib.hid hgr2; clear hown2 hgr2)
            have hst := HST.out
            obtain ⟨r1, r2⟩ := HC.out.take (st2 := st' ++ [j + 1]) (lv' := .slice a2 (m1 + 1) c2) (w' := w2) hMj HBD.out (by rw [List.length_append, HM1.out, List.map_append]; exact HO2.out) ((HMK.out.below ((Below.refl _ _).alloc (Nat.le_refl _) _)).grown HG2.out (fun e => HGH.out (Option.some.inj (show some g = some h from e.symm)))) (((HMO.out.call ((Below.refl _ _).alloc (Nat.le_refl _) _))).grown HG2.out (fun k hk => (HTK.out.lt k hk).1)) (by rw [hst] <;> rfl) (suc_len _ _ _ _)
            exact ⟨⟨_, _, _, by first | rfl | trivial, r1⟩, r2⟩
          · subst o5
            have hp1 : ((p : Int) == (L : Int)) = true := by rw [beq_iff_eq]; omega
            clear hp
            go_wp2_with (at_builtin; refine wpList_append_own _ rfl _ _ 49 rfl u.heap.size 3 i0 (.int .i64 0) 1 8 Tryd.underlying49 hi0 hz0 hz1 hz2 rfl (by decide) _ _ _ rfl (HTK.out.alloc _) ⟨u5.heap.size, 0, none⟩ 1 1 [.int .i64 ((j : Int) + 1)] rfl rfl (cell_one_new _ _ _) (fun y hy => by simp at hy; subst hy; rfl) (by unfold maxLen; omega) (by omega) (by simp; omega) ?_; intro v2 w2 hown2 hgr2 hnil2; clear hnil2; obtain ⟨a2, c2, rfl⟩ := ownsRow_slice hown2; have HO2 := Lib.hid hown2; have HG2 := Lib.hid hgr2; clear hown2 hgr2)
            have hst := HST.out
            obtain ⟨r1, r2⟩ := HC.out.take (st2 := st' ++ [j + 1]) (lv' := .slice a2 (m1 + 1) c2) (w' := w2) hMj HBD.out (by rw [List.length_append, HM1.out, List.map_append]; exact HO2.out) ((HMK.out.below ((Below.refl _ _).alloc (Nat.le_refl _) _)).grown HG2.out (fun e => HGH.out (Option.some.inj (show some g = some h from e.symm)))) (((HMO.out.call ((Below.refl _ _).alloc (Nat.le_refl _) _))).grown HG2.out (fun k hk => (HTK.out.lt k hk).1)) (by rw [hst] <;> rfl) (suc_len _ _ _ _)
            exact ⟨⟨_, _, _, by first | rfl | trivial, r1⟩, r2⟩
        · have hst := suc_none (L := L) (p := p) HVA.out o7 o6 on
          obtain ⟨r1, r2⟩ := HC.out.take (st2 := st') (lv' := .slice (some ⟨g, 0, none⟩) m1 c) (w' := u5) hMj HBD.out (by rw [HM1.out]; exact HTK.out) HMK.out HMO.out (by rw [hst, List.append_nil]) (suc_len _ _ _ _)
          have R1 := Lib.hid r1
          have R2 := Lib.hid r2
          clear r1 r2 hst
          by_cases o4 : op = 4
          · subst o4
            have hp1 : ((p : Int) == 0) = false := by rw [beq_eq_false_iff_ne]; omega
            go_wp2_with fail
            exact ⟨⟨_, _, _, by first | rfl | trivial, R1.out⟩, R2.out⟩
          by_cases o5 : op = 5
          · subst o5
            have hp1 : ((p : Int) == (L : Int)) = false := by rw [beq_eq_false_iff_ne]; omega
            go_wp2_with fail
            exact ⟨⟨_, _, _, by first | rfl | trivial, R1.out⟩, R2.out⟩
          go_wp2_with fail
          exact ⟨⟨_, _, _, by first | rfl | trivial, R1.out⟩, R2.out⟩
end Go.Proofs.YtobpecgecopdnaaDoor

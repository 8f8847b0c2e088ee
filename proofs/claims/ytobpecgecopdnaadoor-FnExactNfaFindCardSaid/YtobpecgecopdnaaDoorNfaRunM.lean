/-
  The program's run of an automaton in memory: worlds between which only two blocks may have turned, the run's five cells, its row of seen marks, rows of threads; takes. No condition.
-/
import Derived.Test.YtobpecgecopdnaaDoorNfaMarks
import Derived.Test.YtobpecgecopdnaaDoorRxDraws
import Derived.Test.YtobpecgecopdnaaDoorFill
namespace Go.Proofs.YtobpecgecopdnaaDoor
open Go.RowKit
set_option linter.unusedVariables false
set_option linter.unusedSimpArgs false

/-- of what was there nothing but the blocks p and q may have turned -/
structure Most2 (p q : Nat) (w w' : World) : Prop where
  os : w'.os = w.os
  tape : w'.tape = w.tape
  output : w'.output = w.output
  size : w.heap.size ≤ w'.heap.size
  block : ∀ k, k ≠ p → k ≠ q → k < w.heap.size → w'.heap[k]? = w.heap[k]?
theorem Most2.refl (p q : Nat) (w : World) : Most2 p q w w := ⟨rfl, rfl, rfl, Nat.le_refl _, fun _ _ _ _ => rfl⟩
theorem Most2.trans {p q : Nat} {a b c : World} (h : Most2 p q a b) (k : Most2 p q b c) : Most2 p q a c :=
  ⟨k.os.trans h.os, k.tape.trans h.tape, k.output.trans h.output, Nat.le_trans h.size k.size, fun i hi hj hl => (k.block i hi hj (Nat.lt_of_lt_of_le hl h.size)).trans (h.block i hi hj hl)⟩
theorem Most2.of_below {p q : Nat} {w w' : World} (h : Below w.heap.size w w') : Most2 p q w w' := ⟨h.os, h.tape, h.output, h.size, fun k _ _ hl => h.block k hl⟩
theorem Most2.call {p q : Nat} {a w w' : World} (k : Most2 p q a w) (h : Below w.heap.size w w') : Most2 p q a w' := k.trans (.of_below h)
theorem Most2.below {p q B : Nat} {w w' : World} (h : Most2 p q w w') (h1 : B ≤ p) (h3 : B ≤ q) (h2 : B ≤ w.heap.size) : Below B w w' :=
  ⟨h.os, h.tape, h.output, h.size, fun k hk => h.block k (by omega) (by omega) (by omega)⟩
theorem Most2.cell {p q : Nat} {w w' : World} (h : Most2 p q w w') {b o : Nat} (hb : b ≠ p) (hb2 : b ≠ q) (hl : b < w.heap.size) : w'.cell? ⟨b, o, none⟩ = w.cell? ⟨b, o, none⟩ := by
  unfold World.cell?; rw [h.block b hb hb2 hl]
theorem Most2.set1 (w : World) (p q o : Nat) (v : Value) : Most2 p q w (w.setCell ⟨p, o, none⟩ v) := by
  refine ⟨rfl, rfl, rfl, by simp [World.setCell], fun k hk _ hl => ?_⟩
  unfold World.setCell
  simp only [Array.getElem?_modify]
  rw [if_neg (fun e => hk e.symm)]
theorem Most2.set2 (w : World) (p q o : Nat) (v : Value) : Most2 p q w (w.setCell ⟨q, o, none⟩ v) := by
  refine ⟨rfl, rfl, rfl, by simp [World.setCell], fun k _ hk hl => ?_⟩
  unfold World.setCell
  simp only [Array.getElem?_modify]
  rw [if_neg (fun e => hk e.symm)]
theorem Most2.grown {p q : Nat} {a w w' : World} {row : Option Nat} (h : Most2 p q a w) (hg : w.grownBy w' row) (hr : ∀ k, row = some k → a.heap.size ≤ k) : Most2 p q a w' :=
  ⟨hg.os.trans h.os, hg.tape.trans h.tape, hg.output.trans h.output, Nat.le_trans h.size hg.size, fun k hk hk2 hl => (hg.block k (Nat.lt_of_lt_of_le hl h.size) (fun e => by have := hr k e.symm; omega)).trans (h.block k hk hk2 hl)⟩
theorem Most2.ownsRow {p q B n : Nat} {e : TypeId} {sz : Nat} {v : Value} {xs : List Value} {w w' : World} (h : Most2 p q w w') (ho : w.ownsRow B e sz v n xs) (hne : v.ownBlock ≠ some p) (hne2 : v.ownBlock ≠ some q) : w'.ownsRow B e sz v n xs := by
  refine ⟨ho.1, ?_⟩
  rcases ho.2 with hn | ⟨g, cap, cur, rfl, hb, hg, rest⟩
  · exact .inl hn
  · refine .inr ⟨g, cap, cur, rfl, hb, ?_, rest⟩
    rw [h.block g (fun e => hne (by rw [e]; rfl)) (fun e => hne2 (by rw [e]; rfl)) (Array.getElem?_eq_some_iff.1 hg).1]
    exact hg

/-- the run's five cells -/
structure RunM (w : World) (r : Nat) (ov lv sv : Value) (xy : Int × Int) : Prop where
  ops : w.cell? ⟨r, 0, none⟩ = some ov
  lst : w.cell? ⟨r, 1, none⟩ = some lv
  seen : w.cell? ⟨r, 2, none⟩ = some sv
  first : w.cell? ⟨r, 3, none⟩ = some (.int .i64 xy.1)
  last : w.cell? ⟨r, 4, none⟩ = some (.int .i64 xy.2)
  free3 : w.frozen? ⟨r, 3, none⟩ = false
  free4 : w.frozen? ⟨r, 4, none⟩ = false
  lt : r < w.heap.size
theorem RunM.of_same {w w' : World} {r : Nat} {ov lv sv : Value} {xy : Int × Int} (h : RunM w r ov lv sv xy) (hb : w'.heap[r]? = w.heap[r]?) (hs : w.heap.size ≤ w'.heap.size) : RunM w' r ov lv sv xy := by
  obtain ⟨h1, h2, h3, h4, h5, h6, h7, h8⟩ := h
  unfold World.cell? at h1 h2 h3 h4 h5
  unfold World.frozen? at h6 h7
  exact ⟨by unfold World.cell?; rw [hb]; exact h1, by unfold World.cell?; rw [hb]; exact h2, by unfold World.cell?; rw [hb]; exact h3, by unfold World.cell?; rw [hb]; exact h4, by unfold World.cell?; rw [hb]; exact h5, by unfold World.frozen?; rw [hb]; exact h6, by unfold World.frozen?; rw [hb]; exact h7, Nat.lt_of_lt_of_le h8 hs⟩
theorem RunM.below {w w' : World} {r : Nat} {ov lv sv : Value} {xy : Int × Int} (h : RunM w r ov lv sv xy) (hb : Below w.heap.size w w') : RunM w' r ov lv sv xy := h.of_same (hb.block r h.lt) hb.size
theorem RunM.grown {w w' : World} {r : Nat} {ov lv sv : Value} {xy : Int × Int} {row : Option Nat} (h : RunM w r ov lv sv xy) (hg : w.grownBy w' row) (hne : some r ≠ row) : RunM w' r ov lv sv xy := h.of_same (hg.block r h.lt hne) hg.size
theorem RunM.set {w : World} {r b o : Nat} {ov lv sv v : Value} {xy : Int × Int} (h : RunM w r ov lv sv xy) (hne : r ≠ b) : RunM (w.setCell ⟨b, o, none⟩ v) r ov lv sv xy :=
  h.of_same (by unfold World.setCell; simp only [Array.getElem?_modify]; rw [if_neg (fun e => hne e.symm)]) (by simp [World.setCell])
theorem RunM.put {w : World} {r : Nat} {ov lv sv : Value} {xy : Int × Int} (h : RunM w r ov lv sv xy) (x y : Int) : RunM ((w.setCell ⟨r, 3, none⟩ (.int .i64 x)).setCell ⟨r, 4, none⟩ (.int .i64 y)) r ov lv sv (x, y) := by
  have e3 : (w.cell? ⟨r, 3, none⟩).isSome = true := by rw [h.first]; rfl
  have e4 : ((w.setCell ⟨r, 3, none⟩ (.int .i64 x)).cell? ⟨r, 4, none⟩).isSome = true := by rw [World.cell?_setCell_other _ _ _ _ (by rintro ⟨⟩), h.last]; rfl
  refine ⟨?_, ?_, ?_, ?_, ?_, ?_, ?_, ?_⟩
  · rw [World.cell?_setCell_other _ _ _ _ (by rintro ⟨⟩), World.cell?_setCell_other _ _ _ _ (by rintro ⟨⟩)]; exact h.ops
  · rw [World.cell?_setCell_other _ _ _ _ (by rintro ⟨⟩), World.cell?_setCell_other _ _ _ _ (by rintro ⟨⟩)]; exact h.lst
  · rw [World.cell?_setCell_other _ _ _ _ (by rintro ⟨⟩), World.cell?_setCell_other _ _ _ _ (by rintro ⟨⟩)]; exact h.seen
  · rw [World.cell?_setCell_other _ _ _ _ (by rintro ⟨⟩), World.cell?_setCell_same' _ _ _ e3]
  · rw [World.cell?_setCell_same' _ _ _ e4]
  · rw [World.frozen?_setCell, World.frozen?_setCell]; exact h.free3
  · rw [World.frozen?_setCell, World.frozen?_setCell]; exact h.free4
  · simpa [World.setCell] using h.lt

/-- what takes answers -/
def takeB (v : OpV) (c : Int) : Bool := if v.1 = 1 then v.2.1 == c else if v.1 = 2 then true else rxHas v.2.2.2.2 v.2.2.2.1 c
theorem takes_any (rp : Value) (q : OpQ) (c : Int) (w : World) (h : OpFine w q) (hl : q.sl ≤ 1048576) :
    Calls Tryd.prog 53 #[rp, q.agg, .int .i64 c] w fun e w' => e = .returned (.bool (takeB q.val c)) ∧ Below w.heap.size w w' := by
  obtain ⟨op, a, b, neg, sa, sl, sc, set⟩ := q
  obtain ⟨h1, h2, -⟩ := h
  simp only [] at h1 h2 hl
  obtain ⟨u5, hu5, s5, b5, ⟨c0, c1, c2, c3, c4⟩, hf5⟩ := laid5 w (.int .i64 op) (.int .i64 a) (.int .i64 b) (.bool neg) (.slice sa sl sc) 76
  have HRX := Lib.hid (show Calls Tryd.prog 70 #[.slice sa sl sc, .bool neg, .int .i64 c] u5 fun e w' => e = .returned (.bool (rxHas set neg c)) ∧ Drawn u5 w' from by
    have := implRxHas_draws sa sc set neg c u5 (h1.below b5) (by omega)
    rw [h2] at this
    exact this)
  have HB := Lib.hid b5
  clear h1 b5 s5 hf5
  by_cases o1 : op = 1
  · subst o1
    go_enter Tryd.func53, Tryd.ntmps53
    go_wp2
    go_ret
    exact ⟨rfl, HB.out⟩
  by_cases o2 : op = 2
  · subst o2
    go_enter Tryd.func53, Tryd.ntmps53
    go_wp2
    go_ret
    exact ⟨rfl, HB.out⟩
  have hE : takeB (op, a, b, neg, set) c = rxHas set neg c := by unfold takeB; simp only []; rw [if_neg o1, if_neg o2]
  have HE := Lib.hid hE
  clear hE
  go_enter Tryd.func53, Tryd.ntmps53
  go_wp2_with fail
  refine HRX.out.mono ?_
  rintro e w1 ⟨rfl, hd⟩
  have HD := Lib.hid (HB.out.trans (hd.below.mono HB.out.size))
  clear hd
  go_wp2
  go_ret
  exact ⟨(show Ending.returned (.bool (rxHas set neg c)) = Ending.returned (.bool (takeB (op, a, b, neg, set) c)) by rw [HE.out]), HD.out⟩
end Go.Proofs.YtobpecgecopdnaaDoor

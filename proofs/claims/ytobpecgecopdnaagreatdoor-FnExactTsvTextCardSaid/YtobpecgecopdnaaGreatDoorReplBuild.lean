/-
  (*strings.Replacer).build at the eight strings of a cell's escapes. Condition: the strings stand in memory.
-/
import Derived.Test.YtobpecgecopdnaaGreatDoorReplNew
import Derived.Deep.CutBlock
import Derived.Deep.WholeRow
import Derived.Lib.ConvBytes
import Derived.Lib.SliceRun
namespace Go.Proofs.YtobpecgecopdnaaGreatDoor
open Go.RowKit
set_option linter.unusedVariables false
set_option linter.unusedSimpArgs false

/-- the eight strings of a cell's escapes -/
def escS : List Value := [.string ⟨#[92]⟩, .string ⟨#[92, 92]⟩, .string ⟨#[9]⟩, .string ⟨#[92, 116]⟩, .string ⟨#[10]⟩, .string ⟨#[92, 110]⟩, .string ⟨#[13]⟩, .string ⟨#[92, 114]⟩]
/-- the bytes that are written in two, in the order of the program's list; what stands behind the backslash -/
def escC : Nat → Nat
  | 0 => 13
  | 1 => 10
  | 2 => 9
  | _ => 92
def escE : Nat → Nat
  | 0 => 114
  | 1 => 110
  | 2 => 116
  | _ => 92
/-- the one-byte strings of the first m of them -/
def escRow (m : Nat) : List Value := (List.range m).map fun j => .string ⟨#[UInt8.ofNat (escC j)]⟩
theorem escRow_succ (m : Nat) : escRow (m + 1) = escRow m ++ [.string ⟨#[UInt8.ofNat (escC m)]⟩] := by unfold escRow; rw [List.range_succ, List.map_append]; rfl
/-- the table of a replacer of bytes by strings in block d, its first m entries laid -/
structure BsrM (B d m : Nat) (w : World) : Prop where
  nil : ∀ k, k < 256 → (∀ j, j < m → escC j ≠ k) → w.cell? ⟨d, k, none⟩ = some (.slice none 0 0)
  set : ∀ j, j < m → ∃ g cap cs z, w.cell? ⟨d, escC j, none⟩ = some (.slice (some ⟨g, 0, none⟩) 2 cap) ∧ w.heap[g]? = some (.cells cs 5 z) ∧ cs[0]? = some (.int .u8 92) ∧ cs[1]? = some (.int .u8 (escE j : Int)) ∧ g ≠ d ∧ B ≤ g
  row : ∃ v, w.cell? ⟨d, 256, none⟩ = some v ∧ w.ownsRow B 9 1 v m (escRow m)
  free : ∀ k, k ≤ 256 → w.frozen? ⟨d, k, none⟩ = false
  blk : ∃ cs z, w.heap[d]? = some (.cells cs 107 z)
  lo : B ≤ d
theorem BsrM.lt {B d m : Nat} {w : World} (h : BsrM B d m w) : d < w.heap.size := by
  obtain ⟨cs, z, hz⟩ := h.blk
  exact (Array.getElem?_eq_some_iff.1 hz).1
theorem escC_ne {j m : Nat} (hm : m < 4) (h : j < m) : escC j ≠ escC m := by
  obtain rfl | rfl | rfl | rfl : m = 0 ∨ m = 1 ∨ m = 2 ∨ m = 3 := by omega
  · omega
  · obtain rfl : j = 0 := by omega
    decide
  · obtain rfl | rfl : j = 0 ∨ j = 1 := by omega
    · decide
    · decide
  · obtain rfl | rfl | rfl : j = 0 ∨ j = 1 ∨ j = 2 := by omega
    · decide
    · decide
    · decide
theorem escC_lt (m : Nat) : escC m < 256 := by unfold escC; split <;> omega
theorem own_types {w : World} {B sz n d : Nat} {e e' : TypeId} {v : Value} {xs : List Value} {cs : Array Value} {z : Nat × Nat} (h : w.ownsRow B e sz v n xs) (hd : w.heap[d]? = some (.cells cs e' z)) (he : e ≠ e') : v.ownBlock ≠ some d := by
  rcases h.2 with ⟨rfl, _⟩ | ⟨g, cap, cur, rfl, _, hg, _⟩
  · simp [Value.ownBlock]
  · simp only [Value.ownBlock, ne_eq, Option.some.injEq]
    rintro rfl
    rw [hg] at hd
    simp only [Option.some.injEq, Obj.cells.injEq] at hd
    exact he hd.2.1
theorem set_blk {w : World} {p : Addr} {v : Value} {d : Nat} {cs : Array Value} {e : TypeId} {z : Nat × Nat} (hd : w.heap[d]? = some (.cells cs e z)) : ∃ cs', (w.setCell p v).heap[d]? = some (.cells cs' e z) := by
  unfold World.setCell
  simp only [Array.getElem?_modify]
  split
  · rw [hd]
    exact ⟨_, rfl⟩
  · exact ⟨cs, hd⟩
theorem bytesBelow (w : World) (s : ByteArray) : Below w.heap.size w (Lib.bytesWorld w 5 s) :=
  ⟨rfl, rfl, rfl, by rw [Lib.bytesWorld_size]; omega, fun j hj => Lib.bytesWorld_at_old w _ s j hj⟩
theorem bytesCells_get (w : World) (e : TypeId) (s : ByteArray) (j : Nat) (hj : j < s.size) : (Lib.bytesCells w e s)[j]? = some (.int .u8 (s.data.toList.getD j 0).toNat) := by
  have h := Lib.bytesWorld_cell w e s j hj
  unfold World.cell? at h
  rw [Lib.bytesWorld_at_new] at h
  exact h
/-- one entry more -/
theorem BsrM.step {B d m cap : Nat} {w u w2 : World} {v v2 : Value} {s : ByteArray} (h : BsrM B d m w) (hm : m < 4) (hv : w.cell? ⟨d, 256, none⟩ = some v) (hB : B ≤ w.heap.size) (hu : Below w.heap.size w u) (hg : u.grownBy w2 v.ownBlock) (own2 : w2.ownsRow B 9 1 v2 (m + 1) (escRow m ++ [.string ⟨#[UInt8.ofNat (escC m)]⟩])) (hs : s = ⟨#[92, UInt8.ofNat (escE m)]⟩) :
    BsrM B d (m + 1) ((Lib.bytesWorld (w2.setCell ⟨d, 256, none⟩ v2) 5 s).setCell ⟨d, escC m, none⟩ (.slice (some ⟨w2.heap.size, 0, none⟩) 2 cap)) ∧
      Below B w ((Lib.bytesWorld (w2.setCell ⟨d, 256, none⟩ v2) 5 s).setCell ⟨d, escC m, none⟩ (.slice (some ⟨w2.heap.size, 0, none⟩) 2 cap)) := by
  obtain ⟨v', hv', hown⟩ := h.row
  rw [hv] at hv'
  obtain rfl : v = v' := by simpa using hv'
  obtain ⟨cs, z, hz⟩ := h.blk
  have hdl := h.lt
  have hvd := own_types hown hz (by decide)
  have hlo := h.lo
  have hus := hu.size
  have hgs := hg.size
  have hCl := escC_lt m
  -- w2: old blocks but v's
  have old2 : ∀ k, k < w.heap.size → v.ownBlock ≠ some k → w2.heap[k]? = w.heap[k]? := fun k hk hne => (hg.block k (Nat.lt_of_lt_of_le hk hus) (fun e => hne e.symm)).trans (hu.block k hk)
  have d2 := (old2 d hdl hvd).trans hz
  have c2 : ∀ k, w2.cell? ⟨d, k, none⟩ = w.cell? ⟨d, k, none⟩ := fun k => World.cell?_of_block (a := ⟨d, k, none⟩) (old2 d hdl hvd)
  have f2 : ∀ k, w2.frozen? ⟨d, k, none⟩ = w.frozen? ⟨d, k, none⟩ := fun k => World.frozen?_of_block (a := ⟨d, k, none⟩) (old2 d hdl hvd)
  have hv2d := own_types own2 d2 (by decide)
  obtain ⟨w3, hw3⟩ : ∃ w3, w2.setCell ⟨d, 256, none⟩ v2 = w3 := ⟨_, rfl⟩
  have hs3 : w3.heap.size = w2.heap.size := by rw [← hw3]; simp [World.setCell]
  have m3 : Mostly d w2 w3 := by rw [← hw3]; exact .set _ _ _ _
  obtain ⟨cs3, d3⟩ : ∃ cs', w3.heap[d]? = some (.cells cs' 107 z) := by rw [← hw3]; exact set_blk d2
  have c3 : ∀ k, k ≠ 256 → w3.cell? ⟨d, k, none⟩ = w.cell? ⟨d, k, none⟩ := fun k hk => by
    rw [← hw3, World.cell?_setCell_other _ _ _ _ (fun e => hk (congrArg Addr.off e).symm), c2]
  have c3' : w3.cell? ⟨d, 256, none⟩ = some v2 := by rw [← hw3, World.cell?_setCell_same' _ _ _ (by rw [c2, hv]; rfl)]
  have f3 : ∀ k, w3.frozen? ⟨d, k, none⟩ = w.frozen? ⟨d, k, none⟩ := fun k => by rw [← hw3, World.frozen?_setCell, f2]
  have o3 : w3.ownsRow B 9 1 v2 (m + 1) (escRow (m + 1)) := by
    rw [← hw3, escRow_succ]
    exact ownsRow_setCell_other own2 hv2d _
  obtain ⟨w4, hw4⟩ : ∃ w4, Lib.bytesWorld w3 5 s = w4 := ⟨_, rfl⟩
  have b4 : Below w3.heap.size w3 w4 := by rw [← hw4]; exact bytesBelow w3 s
  have n4 : w4.heap[w2.heap.size]? = some (.cells (Lib.bytesCells w3 5 s) 5 ((Lib.bytesCells w3 5 s).size, (Lib.bytesCells w3 5 s).size + 1)) := by rw [← hw4, ← hs3]; exact Lib.bytesWorld_at_new w3 _ s
  have hd3 : d < w3.heap.size := by omega
  have c4 : ∀ k, w4.cell? ⟨d, k, none⟩ = w3.cell? ⟨d, k, none⟩ := fun k => b4.cell (p := ⟨d, k, none⟩) hd3
  have f4 : ∀ k, w4.frozen? ⟨d, k, none⟩ = w3.frozen? ⟨d, k, none⟩ := fun k => b4.frozen (p := ⟨d, k, none⟩) hd3
  have d4 := (b4.block d hd3).trans d3
  have o4 := ownsRow_below o3 b4
  rw [hw3, hw4]
  have m5 : Mostly d w4 (w4.setCell ⟨d, escC m, none⟩ (.slice (some ⟨w2.heap.size, 0, none⟩) 2 cap)) := .set _ _ _ _
  have c5 : ∀ k, k ≠ escC m → (w4.setCell ⟨d, escC m, none⟩ (.slice (some ⟨w2.heap.size, 0, none⟩) 2 cap)).cell? ⟨d, k, none⟩ = w3.cell? ⟨d, k, none⟩ := fun k hk => by
    rw [World.cell?_setCell_other _ _ _ _ (fun e => hk (congrArg Addr.off e).symm), c4]
  refine ⟨⟨fun k hk hj => ?_, fun j hj => ?_, ⟨v2, ?_, ?_⟩, fun k hk => ?_, ?_, hlo⟩, ?_⟩
  · rw [c5 k (fun e => hj m (by omega) e.symm), c3 k (by omega)]
    exact h.nil k hk (fun j hj2 => hj j (by omega))
  · by_cases e : j = m
    · subst e
      refine ⟨w2.heap.size, cap, _, _, ?_, (m5.block _ (by omega) (by have := b4.size; rw [← hw4, Lib.bytesWorld_size]; omega)).trans n4, ?_, ?_, by omega, by omega⟩
      · exact World.cell?_setCell_same' _ _ _ (by rw [c4, c3 _ (by omega), h.nil _ hCl (fun i hi => escC_ne hm hi)]; rfl)
      · rw [hs]; exact bytesCells_get w3 _ _ 0 (by show 0 < 2; omega)
      · rw [hs, bytesCells_get w3 _ _ 1 (by show 1 < 2; omega)]
        obtain rfl | rfl | rfl | rfl : j = 0 ∨ j = 1 ∨ j = 2 ∨ j = 3 := by omega
        all_goals rfl
    · obtain ⟨g, cap', cs', z', h1, h2, h3, h4, h5, h6⟩ := h.set j (by omega)
      have hgl := (Array.getElem?_eq_some_iff.1 h2).1
      refine ⟨g, cap', cs', z', ?_, ?_, h3, h4, h5, h6⟩
      · rw [c5 _ (escC_ne hm (by omega)), c3 _ (by have := escC_lt j; omega)]
        exact h1
      · rw [m5.block g h5 (by have := b4.size; omega), b4.block g (by omega), m3.block g h5 (by omega), old2 g hgl (own_types hown h2 (by decide))]
        exact h2
  · rw [c5 _ (by omega)]
    exact c3'
  · exact m5.ownsRow o4 hv2d
  · rw [World.frozen?_setCell, f4, f3]
    exact h.free k hk
  · obtain ⟨cs', hc'⟩ := set_blk (p := ⟨d, escC m, none⟩) (v := .slice (some ⟨w2.heap.size, 0, none⟩) 2 cap) d4
    exact ⟨cs', _, hc'⟩
  · refine Below.trans (Below.grown (hu.mono hB) hg (Nat.le_trans hB hus) (ownBlock_lo hown)) (Below.trans (m3.below hlo (by omega)) (Below.trans (b4.mono (by omega)) (m5.below hlo (by have := b4.size; omega))))
/-- what the walk asks on its way -/
theorem BsrM.way {B d m C : Nat} {w u w2 : World} {v v2 : Value} (h : BsrM B d m w) (hm : m < 4) (hC : escC m = C) (hv : w.cell? ⟨d, 256, none⟩ = some v) (hu : Below w.heap.size w u) (hg : u.grownBy w2 v.ownBlock) :
    w2.frozen? ⟨d, 256, none⟩ = false ∧ w2.cell? ⟨d, 256, none⟩ = some v ∧ ∀ s, (Lib.bytesWorld (w2.setCell ⟨d, 256, none⟩ v2) 5 s).frozen? ⟨d, C, none⟩ = false ∧ (Lib.bytesWorld (w2.setCell ⟨d, 256, none⟩ v2) 5 s).cell? ⟨d, C, none⟩ = some (.slice none 0 0) := by
  subst hC
  obtain ⟨v', hv', hown⟩ := h.row
  rw [hv] at hv'
  obtain rfl : v = v' := by simpa using hv'
  obtain ⟨cs, z, hz⟩ := h.blk
  have hdl := h.lt
  have hvd := own_types hown hz (by decide)
  have hus := hu.size
  have hgs := hg.size
  have hCl := escC_lt m
  have old2 := (hg.block d (Nat.lt_of_lt_of_le hdl hus) (fun e => hvd e.symm)).trans (hu.block d hdl)
  have c2 : ∀ k, w2.cell? ⟨d, k, none⟩ = w.cell? ⟨d, k, none⟩ := fun k => World.cell?_of_block (a := ⟨d, k, none⟩) old2
  have f2 : ∀ k, w2.frozen? ⟨d, k, none⟩ = w.frozen? ⟨d, k, none⟩ := fun k => World.frozen?_of_block (a := ⟨d, k, none⟩) old2
  have hs3 : d < (w2.setCell ⟨d, 256, none⟩ v2).heap.size := by simp [World.setCell]; omega
  refine ⟨by rw [f2]; exact h.free _ (Nat.le_refl _), by rw [c2]; exact hv, fun s => ?_⟩
  have b4 := bytesBelow (w2.setCell ⟨d, 256, none⟩ v2) s
  refine ⟨?_, ?_⟩
  · rw [b4.frozen (p := ⟨d, escC m, none⟩) hs3, World.frozen?_setCell, f2]
    exact h.free _ (by omega)
  · rw [b4.cell (p := ⟨d, escC m, none⟩) hs3, World.cell?_setCell_other _ _ _ _ (fun e => by have := congrArg Addr.off e; simp at this; omega), c2]
    exact h.nil _ hCl (fun i hi => escC_ne hm hi)
theorem strCell (w : World) (o : Obj) (x : Value) (t : TypeId) : ∀ j u, [x][j]? = some u → ((w.alloc o).alloc (.cells #[x] t)).cell? ((⟨w.heap.size + 1, 0, none⟩ : Addr).add j) = some u := by
  have h := cell_one_new (w.alloc o) x t
  have e : (w.alloc o).heap.size = w.heap.size + 1 := by simp
  rw [e] at h
  exact h
theorem makeStr04 (u : World) : (Instr.makeSlice 31 (.int .i64 0) (.int .i64 4)).run Tryz.prog u =
      .ok (.slice (some ⟨u.heap.size, 0, none⟩) 0 4) (u.alloc (.cells (madeCells #[.string .empty] 4) 9)) := by
  obtain ⟨i0, hi, hz0, hz1, hz2⟩ := info_parts infoStrR
  have h := run_make (P := Tryz.prog) u 31 9 i0 (.string .empty) Tryz.underlying31 hi hz0 .i64 .i64 0 4 (by omega) (by omega) (by rw [hz2]; omega) (by omega)
  simpa [hz1, Value.cells] using h
theorem zeroBsr : Tryz.zeroCells107 = (List.replicate 257 (Value.slice none 0 0)).toArray := by kernel_rfl
theorem zsizeBsr : Tryz.zeroCells107.size = 257 := by kernel_rfl
theorem infoBsr : (Tryz.prog.info? 107).map (·.size) = some 257 := by kernel_rfl
theorem storeBsr (wr w2 : World) (hw2 : (wr.alloc (.cells (madeCells #[.string .empty] 4) 9)).alloc (.cells (Tryz.zeroCells107.toList.set 256 (.slice (some ⟨wr.heap.size, 0, none⟩) 0 4)).toArray 107) = w2) :
    (storeCells ⟨wr.heap.size + 1, 0, none⟩ (Tryz.zeroCells107.toList.set 256 (.slice (some ⟨wr.heap.size, 0, none⟩) 0 4))).run Tryz.prog ((wr.alloc (.cells (madeCells #[.string .empty] 4) 9)).alloc (.cells Tryz.zeroCells107 107)) = .ok () w2 := by
  rw [← hw2]
  have h1 : (wr.alloc (.cells (madeCells #[.string .empty] 4) 9)).heap.size = wr.heap.size + 1 := by simp
  have := run_storeCells_new (P := Tryz.prog) (wr.alloc (.cells (madeCells #[.string .empty] 4) 9)) 107 Tryz.zeroCells107 (Tryz.zeroCells107.toList.set 256 (.slice (some ⟨wr.heap.size, 0, none⟩) 0 4)).toArray
    (by rw [infoBsr, List.size_toArray, List.length_set, Array.length_toList, zsizeBsr]) (by show _ = (List.set _ _ _).toArray.size; rw [List.size_toArray]; exact (List.length_set ..).symm) (by
      rw [zeroBsr, List.all_toArray, List.all_eq_true]
      intro x hx
      rcases List.mem_or_eq_of_mem_set hx with h | h
      · rw [List.eq_of_mem_replicate h]; rfl
      · rw [h]; rfl)
  rw [h1] at this
  exact this
theorem bsrM_zero (wr w2 : World) (hw2 : (wr.alloc (.cells (madeCells #[.string .empty] 4) 9)).alloc (.cells (Tryz.zeroCells107.toList.set 256 (.slice (some ⟨wr.heap.size, 0, none⟩) 0 4)).toArray 107) = w2) :
    BsrM wr.heap.size (wr.heap.size + 1) 0 w2 := by
  have h0 : w2.heap[wr.heap.size + 1]? = some (.cells ((List.replicate 257 (Value.slice none 0 0)).set 256 (.slice (some ⟨wr.heap.size, 0, none⟩) 0 4)).toArray 107) := by
    rw [← hw2, zeroBsr]
    have h1 : (wr.alloc (.cells (madeCells #[.string .empty] 4) 9)).heap.size = wr.heap.size + 1 := by simp
    rw [← h1]
    exact Array.getElem?_push_size
  have hlt := (Array.getElem?_eq_some_iff.1 h0).1
  have h1 : w2.heap[wr.heap.size]? = some (.cells (madeCells #[.string .empty] 4) 9) := by
    rw [← hw2]
    show (Array.push (Array.push wr.heap _) _)[wr.heap.size]? = _
    rw [Array.getElem?_push, if_neg (by simp), Array.getElem?_push_size]
  obtain ⟨L, hL⟩ : ∃ L, (List.replicate 257 (Value.slice none 0 0)).set 256 (.slice (some ⟨wr.heap.size, 0, none⟩) 0 4) = L := ⟨_, rfl⟩
  rw [hL] at h0
  have hc : ∀ k, w2.cell? ⟨wr.heap.size + 1, k, none⟩ = L[k]? := fun k => by
    unfold World.cell?
    rw [h0]
    exact List.getElem?_toArray
  refine ⟨fun k hk _ => ?_, fun j hj => absurd hj (Nat.not_lt_zero _), ⟨.slice (some ⟨wr.heap.size, 0, none⟩) 0 4, ?_, ⟨rfl, .inr ⟨wr.heap.size, 4, madeCells #[.string .empty] 4, rfl, Nat.le_refl _, h1, by omega, by unfold maxLen; omega, by simp [madeCells], rfl⟩⟩⟩, fun k hk => ?_, ⟨_, _, h0⟩, by omega⟩
  · rw [hc, ← hL, List.getElem?_set_ne (by omega), List.getElem?_replicate, if_pos (by omega)]
  · rw [hc, ← hL, List.getElem?_set_self (by rw [List.length_replicate]; omega)]
  · unfold World.frozen?
    rw [h0]
    simp
set_option maxRecDepth 20000 in
set_option maxHeartbeats 2000000 in
theorem build_any (b h c : Nat) (w : World) (hb : w.cell? ⟨b, 4, none⟩ = some (.slice (some ⟨h, 0, none⟩) 8 c)) (hs : ∀ j u, escS[j]? = some u → w.cell? ⟨h, j, none⟩ = some u) :
    Calls Tryz.prog 45 #[.pointer (some ⟨b, 0, none⟩)] w fun e w' => ∃ d, e = .returned (.iface 108 (.pointer (some ⟨d, 0, none⟩))) ∧ BsrM w.heap.size d 4 w' ∧ Below w.heap.size w w' := by
  have HS := Lib.hid hs
  have hbl := cell_lt hb
  have hhl := cell_lt (hs 0 _ rfl)
  have x0 := hs 0 _ rfl
  have x1 := hs 1 _ rfl
  have x2 := hs 2 _ rfl
  have x3 := hs 3 _ rfl
  have x4 := hs 4 _ rfl
  have x5 := hs 5 _ rfl
  have x6 := hs 6 _ rfl
  have x7 := hs 7 _ rfl
  clear hs
  obtain ⟨is, his, hsz0, hsz1, hsz2⟩ := info_parts infoStrR
  have qT : ∀ (w : World) (a : Option Addr) (n c n' c' : Nat), (binOp .eql 35 (.slice a n c) (.slice none n' c')).run Tryz.prog w = .ok (.bool a.isNone) w := fun w a n c n' c' => Lib.run_eql_slice_nil w _ _ a n c n' c' Tryz.underlying35
  have hcv := fun W s => Lib.run_convert_string_bytes (P := Tryz.prog) W 9 35 5 s Tryz.underlying9 Tryz.underlying35 Tryz.underlying5
  go_enter Tryz.func45, Tryz.ntmps45
  go_wp2
  go_loopw [4, 5] (fun av iv wr => w = wr ∧ ((iv = .int .i64 0 ∧ av = .bool true) ∨ (iv = .int .i64 2 ∧ av = .bool false) ∨ (iv = .int .i64 4 ∧ av = .bool false) ∨ (iv = .int .i64 6 ∧ av = .bool false) ∨ (iv = .int .i64 8 ∧ av = .bool false))) (fun _ iv _ => 10 - (intOf iv).toNat)
  case atStart => exact ⟨rfl, .inl ⟨rfl, rfl⟩⟩
  case round =>
    obtain ⟨hwr, hr⟩ := hrel
    subst hwr
    rcases hr with ⟨rfl, rfl⟩ | ⟨rfl, rfl⟩ | ⟨rfl, rfl⟩ | ⟨rfl, rfl⟩ | ⟨rfl, rfl⟩
    · go_wp2
      exact ⟨⟨trivial, .inr (.inl ⟨rfl, rfl⟩)⟩, by decide⟩
    · go_wp2
      exact ⟨⟨trivial, .inr (.inr (.inl ⟨rfl, rfl⟩))⟩, by decide⟩
    · go_wp2
      exact ⟨⟨trivial, .inr (.inr (.inr (.inl ⟨rfl, rfl⟩)))⟩, by decide⟩
    · go_wp2
      exact ⟨⟨trivial, .inr (.inr (.inr (.inr ⟨rfl, rfl⟩)))⟩, by decide⟩
    · have hmk := makeStr04 w
      obtain ⟨w2, hw2⟩ : ∃ w2, (w.alloc (.cells (madeCells #[.string .empty] 4) 9)).alloc (.cells (Tryz.zeroCells107.toList.set 256 (.slice (some ⟨w.heap.size, 0, none⟩) 0 4)).toArray 107) = w2 := ⟨_, rfl⟩
      have hst := storeBsr w w2 hw2
      have HBS := Lib.hid (bsrM_zero w w2 hw2)
      have HW2 := Lib.hid (show Below w.heap.size w w2 from by rw [← hw2]; exact ((Below.refl _ _).alloc (Nat.le_refl _) _).alloc (by simp) _)
      clear x0 x1 x2 x3 x4 x5 x6 x7 hw2
      go_wp2
      go_loopw [12] (fun iv wi => ∃ m : Nat, ((iv = .int .i64 6 ∧ m = 0) ∨ (iv = .int .i64 4 ∧ m = 1) ∨ (iv = .int .i64 2 ∧ m = 2) ∨ (iv = .int .i64 0 ∧ m = 3) ∨ (iv = .int .i64 (-2) ∧ m = 4)) ∧ BsrM w.heap.size (w.heap.size + 1) m wi ∧ Below w.heap.size w wi) (fun iv _ => (8 + intOf iv).toNat)
      case atStart => exact ⟨0, .inl ⟨rfl, rfl⟩, HBS.out, HW2.out⟩
      case round =>
        clear HBS HW2
        obtain ⟨m, hmi, hbs, hbw⟩ := hrel
        rename World => wi
        have hsz := hbw.size
        have hx := fun j u hj => (hbw.cell (p := ⟨h, j, none⟩) hhl).trans (HS.out j u hj)
        have hbw' := Lib.hid hbw
        rcases hmi with ⟨rfl, rfl⟩ | ⟨rfl, rfl⟩ | ⟨rfl, rfl⟩ | ⟨rfl, rfl⟩ | ⟨rfl, rfl⟩
        · have x0 := hx 6 _ rfl
          have x1 := hx 7 _ rfl
          have n0 := hbs.nil 13 (by omega) (by decide)
          have f0 := hbs.free 13 (by omega)
          have f1 := hbs.free 256 (by omega)
          obtain ⟨v, r0, r1⟩ := hbs.row
          have e0 : ((ByteArray.mk #[13])[0]'(by decide)).toNat = 13 := rfl
          have HR := Lib.hid r1
          have HBM := Lib.hid hbs
          have hcs := textOfOwned (l := [13]) (ownsRow_one wi w.heap.size 5 (.int .u8 13) hsz)
          have HU := Lib.hid (((Below.refl wi.heap.size wi).alloc (Nat.le_refl _) (.cells #[.int .u8 13] 5)).alloc (by simp) (.cells #[.string (ofL [13])] 9))
          clear hx r1 hbs hbw
          go_wp2_with (at_builtin; refine wpList_append_own _ rfl _ _ 31 rfl w.heap.size 9 is (.string .empty) 1 16 Tryz.underlying31 his hsz0 hsz1 hsz2 rfl (by decide) v 0 (escRow 0) rfl ((HR.out.alloc _).alloc _) ⟨wi.heap.size + 1, 0, none⟩ 1 1 [.string (ofL [13])] rfl rfl (strCell wi _ _ _) (fun u hu => by simp at hu; subst hu; rfl) (by unfold maxLen; omega) (by omega) (by simp; omega) ?_; intro v2 w2 hown2 hgr2 hnil2; clear hnil2; obtain ⟨a2, c2, rfl⟩ := ownsRow_slice hown2; simp only [Nat.reduceAdd] at hown2; have HO2 := Lib.hid hown2; have HG2 := Lib.hid hgr2; obtain ⟨k1, k2, k3⟩ := HBM.out.way (C := 13) (v2 := .slice a2 1 c2) (by omega) rfl r0 HU.out hgr2; have k4 := (k3 ⟨#[92, 114]⟩).1; have k5 := (k3 ⟨#[92, 114]⟩).2; clear hown2 hgr2 k3)
          obtain ⟨t1, t2⟩ := HBM.out.step (s := ⟨#[92, 114]⟩) (cap := grownCap (w2.setCell ⟨w.heap.size + 1, 256, none⟩ (.slice a2 1 c2)) 2 0 5) (by omega) r0 hsz HU.out HG2.out HO2.out rfl
          exact ⟨⟨1, .inr (.inl ⟨rfl, rfl⟩), t1, hbw'.out.trans t2⟩, by decide⟩
        · have x0 := hx 4 _ rfl
          have x1 := hx 5 _ rfl
          have n0 := hbs.nil 10 (by omega) (by decide)
          have f0 := hbs.free 10 (by omega)
          have f1 := hbs.free 256 (by omega)
          obtain ⟨v, r0, r1⟩ := hbs.row
          have e0 : ((ByteArray.mk #[10])[0]'(by decide)).toNat = 10 := rfl
          have HR := Lib.hid r1
          have HBM := Lib.hid hbs
          have hcs := textOfOwned (l := [10]) (ownsRow_one wi w.heap.size 5 (.int .u8 10) hsz)
          have HU := Lib.hid (((Below.refl wi.heap.size wi).alloc (Nat.le_refl _) (.cells #[.int .u8 10] 5)).alloc (by simp) (.cells #[.string (ofL [10])] 9))
          clear hx r1 hbs hbw
          go_wp2_with (at_builtin; refine wpList_append_own _ rfl _ _ 31 rfl w.heap.size 9 is (.string .empty) 1 16 Tryz.underlying31 his hsz0 hsz1 hsz2 rfl (by decide) v 1 (escRow 1) rfl ((HR.out.alloc _).alloc _) ⟨wi.heap.size + 1, 0, none⟩ 1 1 [.string (ofL [10])] rfl rfl (strCell wi _ _ _) (fun u hu => by simp at hu; subst hu; rfl) (by unfold maxLen; omega) (by omega) (by simp; omega) ?_; intro v2 w2 hown2 hgr2 hnil2; clear hnil2; obtain ⟨a2, c2, rfl⟩ := ownsRow_slice hown2; simp only [Nat.reduceAdd] at hown2; have HO2 := Lib.hid hown2; have HG2 := Lib.hid hgr2; obtain ⟨k1, k2, k3⟩ := HBM.out.way (C := 10) (v2 := .slice a2 2 c2) (by omega) rfl r0 HU.out hgr2; have k4 := (k3 ⟨#[92, 110]⟩).1; have k5 := (k3 ⟨#[92, 110]⟩).2; clear hown2 hgr2 k3)
          obtain ⟨t1, t2⟩ := HBM.out.step (s := ⟨#[92, 110]⟩) (cap := grownCap (w2.setCell ⟨w.heap.size + 1, 256, none⟩ (.slice a2 2 c2)) 2 0 5) (by omega) r0 hsz HU.out HG2.out HO2.out rfl
          exact ⟨⟨2, .inr (.inr (.inl ⟨rfl, rfl⟩)), t1, hbw'.out.trans t2⟩, by decide⟩
        · have x0 := hx 2 _ rfl
          have x1 := hx 3 _ rfl
          have n0 := hbs.nil 9 (by omega) (by decide)
          have f0 := hbs.free 9 (by omega)
          have f1 := hbs.free 256 (by omega)
          obtain ⟨v, r0, r1⟩ := hbs.row
          have e0 : ((ByteArray.mk #[9])[0]'(by decide)).toNat = 9 := rfl
          have HR := Lib.hid r1
          have HBM := Lib.hid hbs
          have hcs := textOfOwned (l := [9]) (ownsRow_one wi w.heap.size 5 (.int .u8 9) hsz)
          have HU := Lib.hid (((Below.refl wi.heap.size wi).alloc (Nat.le_refl _) (.cells #[.int .u8 9] 5)).alloc (by simp) (.cells #[.string (ofL [9])] 9))
          clear hx r1 hbs hbw
          go_wp2_with (at_builtin; refine wpList_append_own _ rfl _ _ 31 rfl w.heap.size 9 is (.string .empty) 1 16 Tryz.underlying31 his hsz0 hsz1 hsz2 rfl (by decide) v 2 (escRow 2) rfl ((HR.out.alloc _).alloc _) ⟨wi.heap.size + 1, 0, none⟩ 1 1 [.string (ofL [9])] rfl rfl (strCell wi _ _ _) (fun u hu => by simp at hu; subst hu; rfl) (by unfold maxLen; omega) (by omega) (by simp; omega) ?_; intro v2 w2 hown2 hgr2 hnil2; clear hnil2; obtain ⟨a2, c2, rfl⟩ := ownsRow_slice hown2; simp only [Nat.reduceAdd] at hown2; have HO2 := Lib.hid hown2; have HG2 := Lib.hid hgr2; obtain ⟨k1, k2, k3⟩ := HBM.out.way (C := 9) (v2 := .slice a2 3 c2) (by omega) rfl r0 HU.out hgr2; have k4 := (k3 ⟨#[92, 116]⟩).1; have k5 := (k3 ⟨#[92, 116]⟩).2; clear hown2 hgr2 k3)
          obtain ⟨t1, t2⟩ := HBM.out.step (s := ⟨#[92, 116]⟩) (cap := grownCap (w2.setCell ⟨w.heap.size + 1, 256, none⟩ (.slice a2 3 c2)) 2 0 5) (by omega) r0 hsz HU.out HG2.out HO2.out rfl
          exact ⟨⟨3, .inr (.inr (.inr (.inl ⟨rfl, rfl⟩))), t1, hbw'.out.trans t2⟩, by decide⟩
        · have x0 := hx 0 _ rfl
          have x1 := hx 1 _ rfl
          have n0 := hbs.nil 92 (by omega) (by decide)
          have f0 := hbs.free 92 (by omega)
          have f1 := hbs.free 256 (by omega)
          obtain ⟨v, r0, r1⟩ := hbs.row
          have e0 : ((ByteArray.mk #[92])[0]'(by decide)).toNat = 92 := rfl
          have HR := Lib.hid r1
          have HBM := Lib.hid hbs
          have hcs := textOfOwned (l := [92]) (ownsRow_one wi w.heap.size 5 (.int .u8 92) hsz)
          have HU := Lib.hid (((Below.refl wi.heap.size wi).alloc (Nat.le_refl _) (.cells #[.int .u8 92] 5)).alloc (by simp) (.cells #[.string (ofL [92])] 9))
          clear hx r1 hbs hbw
          go_wp2_with (at_builtin; refine wpList_append_own _ rfl _ _ 31 rfl w.heap.size 9 is (.string .empty) 1 16 Tryz.underlying31 his hsz0 hsz1 hsz2 rfl (by decide) v 3 (escRow 3) rfl ((HR.out.alloc _).alloc _) ⟨wi.heap.size + 1, 0, none⟩ 1 1 [.string (ofL [92])] rfl rfl (strCell wi _ _ _) (fun u hu => by simp at hu; subst hu; rfl) (by unfold maxLen; omega) (by omega) (by simp; omega) ?_; intro v2 w2 hown2 hgr2 hnil2; clear hnil2; obtain ⟨a2, c2, rfl⟩ := ownsRow_slice hown2; simp only [Nat.reduceAdd] at hown2; have HO2 := Lib.hid hown2; have HG2 := Lib.hid hgr2; obtain ⟨k1, k2, k3⟩ := HBM.out.way (C := 92) (v2 := .slice a2 4 c2) (by omega) rfl r0 HU.out hgr2; have k4 := (k3 ⟨#[92, 92]⟩).1; have k5 := (k3 ⟨#[92, 92]⟩).2; clear hown2 hgr2 k3)
          obtain ⟨t1, t2⟩ := HBM.out.step (s := ⟨#[92, 92]⟩) (cap := grownCap (w2.setCell ⟨w.heap.size + 1, 256, none⟩ (.slice a2 4 c2)) 2 0 5) (by omega) r0 hsz HU.out HG2.out HO2.out rfl
          exact ⟨⟨4, .inr (.inr (.inr (.inr ⟨rfl, rfl⟩))), t1, hbw'.out.trans t2⟩, by decide⟩
        · have HBM := Lib.hid hbs
          clear hx hbs hbw
          go_wp2
          go_ret
          exact ⟨_, rfl, HBM.out, hbw'.out⟩
end Go.Proofs.YtobpecgecopdnaaGreatDoor

/-
  Slices of bytes that a call makes and fills, and their text. Condition: no longer than 2 to the 40.
-/
import Derived.Test.YtpolpihgclemnaaDoorInts
import Derived.Test.YtpolpihgclemnaaDoorOwns
import Derived.Test.YtpolpihgclemnaaDoorVal
import Derived.WalkKit
import Derived.WalkLawsBesides
import Derived.WalkSpells
import Derived.BigQuiet
import Derived.Deep.Light
import Derived.Deep.QuietTactic
import Derived.Deep.DeepMust
import Derived.WalkSmall
import Derived.ProofKit
namespace Go.Proofs.YtpolpihgclemnaaDoor
open Go.RowKit
set_option linter.unusedVariables false
set_option linter.unusedSimpArgs false

theorem infoByte : (Tryd.prog.info? 5).map (fun i => (i.zero, i.size, i.bytes)) = some (some (.int .u8 0), 1, 1) := by kernel_rfl

theorem makeBytes (n : Nat) (hn : n ≤ 1099511627776) (u : World) : (Instr.makeSlice 56 (.int .i64 (n : Int)) (.int .i64 (n : Int))).run Tryd.prog u =
      .ok (.slice (some ⟨u.heap.size, 0, none⟩) n n) (u.alloc (.cells (madeCells #[.int .u8 0] n) 5)) := by
  obtain ⟨i0, hi, hz0, hz1, hz2⟩ := info_parts infoByte
  have h := run_make (P := Tryd.prog) u 56 5 i0 (.int .u8 0) Tryd.underlying56 hi hz0 .i64 .i64 (n : Int) (n : Int) (by omega) (Int.le_refl _) (by rw [hz2]; omega) (by omega)
  simpa [hz1, Value.cells] using h
theorem madeBytes_get (z : Value) (n j : Nat) (hj : j < n) : (madeCells #[z] n)[j]? = some z := by
  have e : j % 1 = 0 := Nat.mod_one j
  simp [madeCells, hj, e]
theorem fillBytes (w : World) (n : Nat) : Fill w (w.alloc (.cells (madeCells #[.int .u8 0] n) 5)) w.heap.size n (fun _ => .int .u8 0) := by
  have hF := Fill.made w w (Below.refl _ _) (madeCells #[.int .u8 0] n) 5 (fun _ => .int .u8 0) (fun j hj => madeBytes_get _ _ _ (by simpa [size_madeCells] using hj))
  rw [size_madeCells] at hF
  exact hF
/-- the text of a row of bytes -/
theorem textOfRow (w : World) (g cap n : Nat) (l : List UInt8) (hn : l.length = n) (hc : ∀ j (hj : j < l.length), w.cell? ⟨g, j, none⟩ = some (.int .u8 (l[j].toNat : Int))) :
    (convert 56 9 (.slice (some ⟨g, 0, none⟩) n cap)).run Tryd.prog w = .ok (.string (ofL l)) w := by
  subst hn
  refine run_convert_bytes_back w 56 9 5 ⟨g, 0, none⟩ cap l Tryd.underlying56 Tryd.underlying5 Tryd.underlying9 (fun j hj => ?_)
  rw [← hc j hj]
  congr 1
  unfold Addr.add
  split <;> simp_all
/-- a row that holds a number's places -/
theorem textOfDigs {w wr : World} {g n cap v : Nat} (h : Fill w wr g n (fun j => .int .u8 (48 + (dgt v (n - 1 - j) : Nat)))) :
    (convert 56 9 (.slice (some ⟨g, 0, none⟩) n cap)).run Tryd.prog wr = .ok (.string (ofL (digs v n))) wr := by
  refine textOfRow wr g cap n (digs v n) (digs_length n v) (fun j hj => ?_)
  rw [digs_length] at hj
  rw [h.cell j hj, digs_get n v j hj, ofNat_dig (dgt_lt _ _)]
  rfl

/-- a byte as a cell -/
def byteV (c : UInt8) : Value := .int .u8 (c.toNat : Int)
theorem textOfOwned {w : World} {b : Nat} {g cap n : Nat} {l : List UInt8} (h : w.ownsRow b 5 1 (.slice (some ⟨g, 0, none⟩) n cap) n (l.map byteV)) :
    (convert 56 9 (.slice (some ⟨g, 0, none⟩) n cap)).run Tryd.prog w = .ok (.string (ofL l)) w := by
  have hl : l.length = n := by simpa using h.1
  refine textOfRow w g cap n l hl (fun j hj => ?_)
  rw [h.cellAt j (by omega), List.getElem?_map, List.getElem?_eq_getElem hj]
  rfl
/-- an owned row of at least one element has an address -/
theorem ownsRow_some {w : World} {b : Nat} {e : TypeId} {v : Value} {n : Nat} {xs : List Value} (h : w.ownsRow b e 1 v n xs) (hn : 0 < n) : ∃ g cap, v = .slice (some ⟨g, 0, none⟩) n cap ∧ b ≤ g ∧ g < w.heap.size := by
  rcases h.2 with ⟨_, h0⟩ | ⟨g, cap, cur, hv, hg, hh, _⟩
  · omega
  · exact ⟨g, cap, hv, hg, (Array.getElem?_eq_some_iff.1 hh).1⟩
theorem ownsRow_one (w : World) (b : Nat) (e : TypeId) (x : Value) (hb : b ≤ w.heap.size) : (w.alloc (.cells #[x] e)).ownsRow b e 1 (.slice (some ⟨w.heap.size, 0, none⟩) 1 1) 1 [x] :=
  ⟨rfl, .inr ⟨w.heap.size, 1, #[x], rfl, hb, (MapKept.heap_alloc w _).1, Nat.le_refl _, by unfold maxLen; omega, rfl, rfl⟩⟩
/-- the cells of an owned row, where a law asks for them -/
theorem ownsRow_news {w : World} {b : Nat} {e : TypeId} {g cap n : Nat} {xs : List Value} (h : w.ownsRow b e 1 (.slice (some ⟨g, 0, none⟩) n cap) n xs) : ∀ j u, xs[j]? = some u → w.cell? ((⟨g, 0, none⟩ : Addr).add j) = some u := by
  intro j u hj
  have hjl : j < xs.length := (List.getElem?_eq_some_iff.1 hj).1
  have := h.cellAt j (by have := h.1; omega)
  rw [hj] at this
  rw [← this]
  congr 1
  unfold Addr.add
  split <;> simp_all
theorem byteV_one {l : List UInt8} : ∀ u ∈ l.map byteV, u.oneCell' = true := by
  intro u hu
  obtain ⟨c, _, rfl⟩ := List.mem_map.1 hu
  rfl
end Go.Proofs.YtpolpihgclemnaaDoor

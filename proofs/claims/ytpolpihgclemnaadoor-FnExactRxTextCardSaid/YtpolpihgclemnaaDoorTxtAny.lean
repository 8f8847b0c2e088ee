/-
  The text of an owned row of bytes, an empty one too; a code point's cells. No program's function here. No condition.
-/
import Derived.Test.YtpolpihgclemnaaDoorEnc
import Derived.Test.YtpolpihgclemnaaDoorFill
import Derived.Laws.OwnMore
import Derived.Lib.BufferRead
import Derived.Lib.ConvBytes
import Derived.Lib.Agree
namespace Go.Proofs.YtpolpihgclemnaaDoor
open Go.RowKit
open Go.Lib hiding intOf

/-- the text of an owned row of bytes, an empty one too -/
theorem textOfAny {w : World} {b : Nat} {v : Value} {n : Nat} {l : List UInt8} (h : w.ownsRow b 5 1 v n (l.map byteV)) :
    (convert 56 9 v).run Tryd.prog w = .ok (.string (ofL l)) w := by
  rcases h.2 with ⟨rfl, h0⟩ | ⟨g, cap, cur, rfl, _⟩
  · have h1 : l.length = 0 := by have := h.1; simp at this; omega
    obtain rfl : l = [] := List.eq_nil_of_length_eq_zero h1
    exact Lib.run_convert_nil_bytes w _ _ _ 0 Tryd.underlying56 Tryd.underlying5 Tryd.underlying9
  · exact textOfOwned h
theorem pt_cells (c : Nat) : (ptBytes c).map byteV = runeCells (c : Int) := byteCells_encodeRune (c : Int)
theorem enc_take_succ {r : List Nat} {j : Nat} (h : j < r.length) : enc (r.take (j + 1)) = enc (r.take j) ++ ptBytes r[j] := by
  rw [List.take_succ_eq_append_getElem h, enc_snoc]

end Go.Proofs.YtpolpihgclemnaaDoor

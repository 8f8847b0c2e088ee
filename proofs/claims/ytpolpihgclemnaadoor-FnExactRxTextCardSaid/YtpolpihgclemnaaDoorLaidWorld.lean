/-
  A world for the witness: the settled one, the two tables of unicode utf8 holding what their initialisers lay; what a row's list gives the walks. No condition.
-/
import Derived.Test.YtpolpihgclemnaaDoorRows
import Derived.Test.YtpolpihgclemnaaDoorShelf
import Derived.Lib.LaidIn
import Derived.Lib.LaidU8T
import Derived.Deep.DeepHandedRow
import Derived.ProofKit
namespace Go.Proofs.YtpolpihgclemnaaDoor
open Go.RowKit Go.Lib Go.Shelf

/-- a table's cells, as a row lists them -/
def litsOf : DataW Unit → Array Value
  | .agg l => (l.map fun x => match x with | .lit (.int k z) => Value.int k z | _ => Value.bool false).toArray
  | _ => #[]

noncomputable def laidWorld (os : Os) : World :=
  let w0 := World.holding Tryd.prog os ⟨#[], #[], []⟩
  let put (h : Array Obj) (g : Nat) (cs : Array Value) : Array Obj := h.modify g fun
    | .cells _ t frozen => .cells cs t frozen
    | o => o
  let h1 := w0.heap
  let h2 := h1
  let h2 := put h2 2 (litsOf Rows.laid_math_bits_deBruijn32tab)
  let h2 := put h2 3 (litsOf Rows.laid_math_bits_deBruijn64tab)
  let h2 := put h2 1 (litsOf Rows.laid_internal_strconv_uint64pow10)
  { w0 with heap := h2 }

end Go.Proofs.YtpolpihgclemnaaDoor

/-
  A world for the witness: the settled one, the two tables of unicode utf8 holding what their initialisers lay; what a row's list gives the walks. No condition.
-/
import Derived.Test.YtobpecgecopdnaaDoorRows
import Derived.Test.YtobpecgecopdnaaDoorShelf
import Derived.Lib.LaidIn
import Derived.Lib.LaidU8T
import Derived.Deep.DeepHandedRow
import Derived.ProofKit
namespace Go.Proofs.YtobpecgecopdnaaDoor
open Go.RowKit Go.Lib Go.Shelf

/-- a table's cells, as a row lists them -/
def litsOf : DataW Unit → Array Value
  | .agg l => (l.map fun x => match x with | .lit (.int k z) => Value.int k z | _ => Value.bool false).toArray
  | _ => #[]

noncomputable def laidWorld (os : Os) : World :=
  let w0 := World.holding Tryd.prog os ⟨#[], #[], []⟩
  let put (h : Array Obj) (g : Nat) (cs : Array Value) : Array Obj := h.modify g fun
    | .cells _ t frozen => .cells cs t frozen
    | o => o
  let h1 := put w0.heap 0 (Lib.firstTab.map fun z => Value.int .u8 z).toArray
  let h2 := put h1 1 ((List.range 16).flatMap fun i => [Value.int .u8 (Lib.accLo i), Value.int .u8 (Lib.accHi i)]).toArray
  let h2 := put h2 4 (litsOf Rows.laid_math_bits_deBruijn32tab)
  let h2 := put h2 5 (litsOf Rows.laid_math_bits_deBruijn64tab)
  let h2 := put h2 3 (litsOf Rows.laid_internal_strconv_uint64pow10)
  { w0 with heap := h2 }

theorem same_accept : (Rows.laid_unicode_utf8_acceptRanges : DataW Unit) = Lib.acceptData := by kernel_rfl
theorem same_first : Rows.laid_unicode_utf8_first = Lib.firstData := by kernel_rfl
end Go.Proofs.YtobpecgecopdnaaDoor

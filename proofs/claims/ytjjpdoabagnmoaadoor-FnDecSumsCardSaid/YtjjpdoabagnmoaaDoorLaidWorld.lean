/-
  A world for the witness: the settled one, the two tables of unicode utf8 holding what their initialisers lay; what a row's list gives the walks. No condition.
-/
import Derived.Test.YtjjpdoabagnmoaaDoorRows
import Derived.Test.YtjjpdoabagnmoaaDoorShelf
import Derived.Lib.LaidIn
import Derived.Lib.LaidU8T
import Derived.Deep.DeepHandedRow
import Derived.ProofKit
namespace Go.Proofs.YtjjpdoabagnmoaaDoor
open Go.RowKit Go.Lib Go.Shelf

/-- a table's cells, as a row lists them -/
def litsOf : DataW Unit → Array Value
  | .agg l => (l.map fun x => match x with | .lit (.int k z) => Value.int k z | _ => Value.bool false).toArray
  | _ => #[]

noncomputable def laidWorld (os : Os) : World :=
  let w0 := World.holding Tryd.prog os ⟨#[], #[], []⟩
  let put (h : Array Obj) (g : Nat) (cs : Array Value) : Array Obj := h.modify g fun
    | .cells _ t frozen => .cells cs t frozen
    | o => o
  let h1 := put w0.heap 0 (Lib.firstTab.map fun z => Value.int .u8 z).toArray
  let h2 := put h1 1 ((List.range 16).flatMap fun i => [Value.int .u8 (Lib.accLo i), Value.int .u8 (Lib.accHi i)]).toArray
  let h2 := put h2 6 (litsOf Rows.laid_math_bits_deBruijn32tab)
  let h2 := put h2 7 (litsOf Rows.laid_math_bits_deBruijn64tab)
  let h2 := put h2 5 (litsOf Rows.laid_internal_strconv_uint64pow10)
  let h2 := put (h2.push (.cells #[.string (⟨#[118, 97, 108, 117, 101, 32, 111, 117, 116, 32, 111, 102, 32, 114, 97, 110, 103, 101]⟩ : ByteArray)] 127)) 4 #[.iface 125 (.pointer (some ⟨h2.size, 0, none⟩))]
  let h2 := put (h2.push (.cells #[.string (⟨#[105, 110, 118, 97, 108, 105, 100, 32, 115, 121, 110, 116, 97, 120]⟩ : ByteArray)] 127)) 3 #[.iface 125 (.pointer (some ⟨h2.size, 0, none⟩))]
  { w0 with heap := h2 }

theorem same_accept : (Rows.laid_unicode_utf8_acceptRanges : DataW Unit) = Lib.acceptData := by kernel_rfl
theorem same_first : Rows.laid_unicode_utf8_first = Lib.firstData := by kernel_rfl
end Go.Proofs.YtjjpdoabagnmoaaDoor

/-
  The writers of strings.Builder as the walks use them: a builder in a block of the call's own holds a list of bytes. Condition: no longer than 2 to the 40.
-/
import Derived.Test.YtobpecgecopdnaaGreatDoorShelf
import Derived.Test.YtobpecgecopdnaaGreatDoorEnc
import Derived.Lib.Agree
import Derived.Test.YtobpecgecopdnaaGreatDoorFill
import Derived.Shelf.Strings.BuilderK
import Derived.Shelf.Strings.BuilderRune
namespace Go.Proofs.YtobpecgecopdnaaGreatDoor
open Go.RowKit
open Go.Lib hiding intOf
set_option linter.unusedVariables false

/-- a builder of the call's own, in block b, that holds l -/
def Built (B b : Nat) (l : List UInt8) (w : World) : Prop := Lib.IsBuilderF 47 5 B b (Lib.byteCells l) w
theorem built_new (w : World) : Built w.heap.size w.heap.size [] (w.alloc (.cells #[.pointer none, .slice none 0 0] 47)) := Lib.IsBuilderF.of (Lib.fresh_isBuilder _ _ w)
theorem Built.lt {B b : Nat} {l : List UInt8} {w : World} (h : Built B b l w) : B ≤ b ∧ b < w.heap.size := by
  rcases h with h | h
  · exact ⟨h.1, h.lt⟩
  · exact ⟨h.1, h.lt⟩
theorem byteCells_snoc (l : List UInt8) (x : UInt8) (c : Int) (hc : c = (x.toNat : Int)) : Lib.byteCells l ++ [.int .u8 c] = Lib.byteCells (l ++ [x]) := by
  rw [hc, Lib.byteCells_append]; rfl

theorem writeByte_any (B b : Nat) (l : List UInt8) (x : UInt8) (c : Int) (hc : c = (x.toNat : Int)) (w : World) (h : Built B b l w) (hl : l.length ≤ 1099511627776) (hB : B ≤ w.heap.size) :
    Calls Tryz.prog 22 #[.pointer (some ⟨b, 0, none⟩), .int .u8 c] w fun e w' => e = .returned .nilIface ∧ Built B b (l ++ [x]) w' ∧ Below B w w' := by
  refine (Tryz.Builder_WriteByte_k B b (Lib.byteCells l) c w h (by rw [Lib.byteCells_length]; omega) hB).mono ?_
  rintro e w' ⟨rfl, h1, h2, _⟩
  rw [byteCells_snoc l x c hc] at h1
  exact ⟨rfl, .inr h1, h2⟩
theorem writeString_any (B b : Nat) (l : List UInt8) (t : ByteArray) (w : World) (h : Built B b l w) (hl : l.length ≤ 1099511627776) (ht : t.size ≤ 1099511627776) (hB : B ≤ w.heap.size) :
    Calls Tryz.prog 21 #[.pointer (some ⟨b, 0, none⟩), .string t] w fun e w' => e = .returned (.tuple #[.int .i64 t.size, .nilIface]) ∧ Built B b (l ++ bs t) w' ∧ Below B w w' := by
  refine (Tryz.Builder_WriteString_k B b (Lib.byteCells l) t w h (by rw [Lib.byteCells_length]; omega) hB).mono ?_
  rintro e w' ⟨rfl, h1, h2, _⟩
  have e : Lib.byteCells l ++ Lib.strCells t = Lib.byteCells (l ++ bs t) := by rw [Lib.byteCells_append]; rfl
  rw [e] at h1
  exact ⟨rfl, .inr h1, h2⟩
theorem builtString_any (B b : Nat) (l : List UInt8) (w : World) (h : Built B b l w) (hB : B ≤ w.heap.size) :
    Calls Tryz.prog 24 #[.pointer (some ⟨b, 0, none⟩)] w fun e w' => e = .returned (.string (ofL l)) ∧ Below B w w' := by
  refine (Tryz.Builder_String_any_k B b l w h hB).mono ?_
  rintro e w' ⟨rfl, _, h2, _⟩
  exact ⟨rfl, h2⟩
end Go.Proofs.YtobpecgecopdnaaGreatDoor

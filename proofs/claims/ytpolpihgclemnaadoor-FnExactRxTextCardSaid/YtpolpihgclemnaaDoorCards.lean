/-
  DERIVED. GIVEN WITH THE SEED: THE CARDS: each row of YtpolpihgclemnaaDoorRows.lean that lists a variable, with what it lists TIED to the program's text (the seventh form; the later family's looks); each row that meets fmt, with fmt's text TOLD by the authors' own Lean function (tested against real Go, not proved from fmt's source: count such statements apart). THE CARD IS WHAT COUNTS. Prove the row's statement (the work); the ties are given (YtpolpihgclemnaaDoorTie.lean); close each card by the builder's one call (the guide's Derived/Test/ToyasCard.lean, 'card_holds'). Laid BY PROGRAM, IN A SANDBOX (cutbox-door.mjs). By AI agents, Wed Nov 11 2026. No macro, syntax, notation, axiom, sorry.
-/
import Derived.Test.YtpolpihgclemnaaDoorRows
import GoSem.ClaimSeven
namespace Go.Proofs.YtpolpihgclemnaaDoor
namespace Rows

/-- THE TIED CARD OF 'laws.FnExactRxText'. -/
def fnExactRxTextCard : Claim7 := { stood := { row := fnExactRxTextRow, standIns := [], harness := (true, "0ff7d19efaa81ed80014aef91c51b6fe682e9ec8e0bd864df2b9dbd7c878676d"), looks := false }, kinds := [], alts := [], laidByText := true, laidKinds := [.data, .data, .data], laidTests := true, laidLooks := .later }
def FnExactRxTextCardSaid : Prop := Claim7.holds Tryd.pinned (.plain (OpenSpec.ofChange fnExactRxTextSpec)) fnExactRxTextCard

/-- THE SECOND FORM's CARD OF 'laws.FnExactRxText'. -/
def fnExactRxTextUptoCard : Claim7 := { stood := { row := fnExactRxTextUptoRow, standIns := [], harness := (true, "0ff7d19efaa81ed80014aef91c51b6fe682e9ec8e0bd864df2b9dbd7c878676d"), looks := false }, kinds := [], alts := [], laidByText := true, laidKinds := [.data, .data, .data], laidTests := true, laidLooks := .later }
def FnExactRxTextUptoCardSaid : Prop := Claim7.holds Tryd.pinned (.plain (OpenSpec.upto fnExactRxTextSpec)) fnExactRxTextUptoCard
end Rows
end Go.Proofs.YtpolpihgclemnaaDoor

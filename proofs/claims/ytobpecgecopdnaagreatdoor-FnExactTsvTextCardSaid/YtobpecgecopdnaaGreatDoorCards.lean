/-
  DERIVED. GIVEN WITH THE SEED: THE CARDS: each row of YtobpecgecopdnaaGreatDoorRows.lean that lists a variable, with what it lists TIED to the program's text (the seventh form; the later family's looks); each row that meets fmt, with fmt's text TOLD by the authors' own Lean function (tested against real Go, not proved from fmt's source: count such statements apart). THE CARD IS WHAT COUNTS. Prove the row's statement (the work); the ties are given (YtobpecgecopdnaaGreatDoorTie.lean); close each card by the builder's one call (the guide's Derived/Test/ToyasCard.lean, 'card_holds'). Laid BY PROGRAM, IN A SANDBOX (cutbox-door.mjs). By AI agents, Wed Nov 11 2026. No macro, syntax, notation, axiom, sorry.
-/
import Derived.Test.YtobpecgecopdnaaGreatDoorRows
import GoSem.ClaimSeven
namespace Go.Proofs.YtobpecgecopdnaaGreatDoor
namespace Rows

/-- THE TIED CARD OF 'laws.FnExactTsvText'. -/
def fnExactTsvTextCard : Claim7 := { stood := { row := fnExactTsvTextRow, standIns := [], harness := (true, "653653c998ab818d4dd8a8708ea76c4eb8cc8f07453b46eee8675d58878ae1e5"), looks := true }, kinds := [], alts := [], laidByText := true, laidKinds := [.data, .pinned], laidTests := true, laidLooks := .later }
def FnExactTsvTextCardSaid : Prop := Claim7.holds Tryz.pinned (.plain (OpenSpec.ofChange fnExactTsvTextSpec)) fnExactTsvTextCard

/-- THE SECOND FORM's CARD OF 'laws.FnExactTsvText'. -/
def fnExactTsvTextUptoCard : Claim7 := { stood := { row := fnExactTsvTextUptoRow, standIns := [], harness := (true, "653653c998ab818d4dd8a8708ea76c4eb8cc8f07453b46eee8675d58878ae1e5"), looks := true }, kinds := [], alts := [], laidByText := true, laidKinds := [.data, .pinned], laidTests := true, laidLooks := .later }
def FnExactTsvTextUptoCardSaid : Prop := Claim7.holds Tryz.pinned (.plain (OpenSpec.upto fnExactTsvTextSpec)) fnExactTsvTextUptoCard
end Rows
end Go.Proofs.YtobpecgecopdnaaGreatDoor

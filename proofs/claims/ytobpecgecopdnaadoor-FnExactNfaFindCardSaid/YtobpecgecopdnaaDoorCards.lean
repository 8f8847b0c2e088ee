/-
  DERIVED. GIVEN WITH THE SEED: THE CARDS: each row of YtobpecgecopdnaaDoorRows.lean that lists a variable, with what it lists TIED to the program's text (the seventh form; the later family's looks); each row that meets fmt, with fmt's text TOLD by the authors' own Lean function (tested against real Go, not proved from fmt's source: count such statements apart). THE CARD IS WHAT COUNTS. Prove the row's statement (the work); the ties are given (YtobpecgecopdnaaDoorTie.lean); close each card by the builder's one call (the guide's Derived/Test/ToyasCard.lean, 'card_holds'). Laid BY PROGRAM, IN A SANDBOX (cutbox-door.mjs). By AI agents, Wed Nov 11 2026. No macro, syntax, notation, axiom, sorry.
-/
import Derived.Test.YtobpecgecopdnaaDoorRows
import GoSem.ClaimSeven
namespace Go.Proofs.YtobpecgecopdnaaDoor
namespace Rows

/-- THE TIED CARD OF 'laws.FnExactCellText'. -/
def fnExactCellTextCard : Claim7 := { stood := { row := fnExactCellTextRow, standIns := [], harness := (true, "3e69a0ca7712ae86ac109efe05f2888194972fce741961825aa9103a190475c7"), looks := true }, kinds := [], alts := [], laidByText := true, laidKinds := [.data, .pinned], laidTests := true, laidLooks := .later }
def FnExactCellTextCardSaid : Prop := Claim7.holds Tryd.pinned (.plain (OpenSpec.ofChange fnExactCellTextSpec)) fnExactCellTextCard

/-- THE TIED CARD OF 'laws.FnExactNfaFind'. -/
def fnExactNfaFindCard : Claim7 := { stood := { row := fnExactNfaFindRow, standIns := [], harness := (true, "3e69a0ca7712ae86ac109efe05f2888194972fce741961825aa9103a190475c7"), looks := true }, kinds := [], alts := [], laidByText := true, laidKinds := [.data, .pinned], laidTests := true, laidLooks := .later }
def FnExactNfaFindCardSaid : Prop := Claim7.holds Tryd.pinned (.plain (OpenSpec.ofChange fnExactNfaFindSpec)) fnExactNfaFindCard

/-- THE TIED CARD OF 'laws.FnExactRxText'. -/
def fnExactRxTextCard : Claim7 := { stood := { row := fnExactRxTextRow, standIns := [], harness := (true, "3e69a0ca7712ae86ac109efe05f2888194972fce741961825aa9103a190475c7"), looks := true }, kinds := [], alts := [], laidByText := true, laidKinds := [.data, .data, .data], laidTests := true, laidLooks := .later }
def FnExactRxTextCardSaid : Prop := Claim7.holds Tryd.pinned (.plain (OpenSpec.ofChange fnExactRxTextSpec)) fnExactRxTextCard

/-- THE SECOND FORM's CARD OF 'laws.FnExactCellText'. -/
def fnExactCellTextUptoCard : Claim7 := { stood := { row := fnExactCellTextUptoRow, standIns := [], harness := (true, "3e69a0ca7712ae86ac109efe05f2888194972fce741961825aa9103a190475c7"), looks := true }, kinds := [], alts := [], laidByText := true, laidKinds := [.data, .pinned], laidTests := true, laidLooks := .later }
def FnExactCellTextUptoCardSaid : Prop := Claim7.holds Tryd.pinned (.plain (OpenSpec.upto fnExactCellTextSpec)) fnExactCellTextUptoCard

/-- THE SECOND FORM's CARD OF 'laws.FnExactNfaFind'. -/
def fnExactNfaFindUptoCard : Claim7 := { stood := { row := fnExactNfaFindUptoRow, standIns := [], harness := (true, "3e69a0ca7712ae86ac109efe05f2888194972fce741961825aa9103a190475c7"), looks := true }, kinds := [], alts := [], laidByText := true, laidKinds := [.data, .pinned], laidTests := true, laidLooks := .later }
def FnExactNfaFindUptoCardSaid : Prop := Claim7.holds Tryd.pinned (.plain (OpenSpec.upto fnExactNfaFindSpec)) fnExactNfaFindUptoCard

/-- THE SECOND FORM's CARD OF 'laws.FnExactRxText'. -/
def fnExactRxTextUptoCard : Claim7 := { stood := { row := fnExactRxTextUptoRow, standIns := [], harness := (true, "3e69a0ca7712ae86ac109efe05f2888194972fce741961825aa9103a190475c7"), looks := true }, kinds := [], alts := [], laidByText := true, laidKinds := [.data, .data, .data], laidTests := true, laidLooks := .later }
def FnExactRxTextUptoCardSaid : Prop := Claim7.holds Tryd.pinned (.plain (OpenSpec.upto fnExactRxTextSpec)) fnExactRxTextUptoCard
end Rows
end Go.Proofs.YtobpecgecopdnaaDoor

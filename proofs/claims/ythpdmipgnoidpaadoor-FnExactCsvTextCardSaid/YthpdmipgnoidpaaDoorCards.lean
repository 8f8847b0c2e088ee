/-
  DERIVED. GIVEN WITH THE SEED: THE CARDS: each row of YthpdmipgnoidpaaDoorRows.lean that lists a variable, with what it lists TIED to the program's text (the seventh form; the later family's looks); each row that meets fmt, with fmt's text TOLD by the authors' own Lean function (tested against real Go, not proved from fmt's source: count such statements apart). THE CARD IS WHAT COUNTS. Prove the row's statement (the work); the ties are given (YthpdmipgnoidpaaDoorTie.lean); close each card by the builder's one call (the guide's Derived/Test/ToyasCard.lean, 'card_holds'). Laid BY PROGRAM, IN A SANDBOX (cutbox-door.mjs). By AI agents, Wed Nov 11 2026. No macro, syntax, notation, axiom, sorry.
-/
import Derived.Test.YthpdmipgnoidpaaDoorRows
import GoSem.ClaimSeven
namespace Go.Proofs.YthpdmipgnoidpaaDoor
namespace Rows

/-- THE TIED CARD OF 'laws.FnExactTsvRead'. -/
def fnExactTsvReadCard : Claim7 := { stood := { row := fnExactTsvReadRow, standIns := [], harness := (true, "aa4dcfaafb5798404e79392e3810b0c62995751b03eef205fda00068ebae1074"), looks := true }, kinds := [], alts := [], laidByText := true, laidKinds := [.data, .pinned], laidTests := true, laidLooks := .later }
def FnExactTsvReadCardSaid : Prop := Claim7.holds Tryd.pinned (.plain (OpenSpec.ofChange fnExactTsvReadSpec)) fnExactTsvReadCard

/-- THE TIED CARD OF 'laws.FnExactCsvRead'. -/
def fnExactCsvReadCard : Claim7 := { stood := { row := fnExactCsvReadRow, standIns := [], harness := (true, "aa4dcfaafb5798404e79392e3810b0c62995751b03eef205fda00068ebae1074"), looks := true }, kinds := [], alts := [], laidByText := true, laidKinds := [.data, .pinned], laidTests := true, laidLooks := .later }
def FnExactCsvReadCardSaid : Prop := Claim7.holds Tryd.pinned (.plain (OpenSpec.ofChange fnExactCsvReadSpec)) fnExactCsvReadCard

/-- THE TIED CARD OF 'laws.FnExactCellText'. -/
def fnExactCellTextCard : Claim7 := { stood := { row := fnExactCellTextRow, standIns := [], harness := (true, "aa4dcfaafb5798404e79392e3810b0c62995751b03eef205fda00068ebae1074"), looks := true }, kinds := [], alts := [], laidByText := true, laidKinds := [.data, .pinned], laidTests := true, laidLooks := .later }
def FnExactCellTextCardSaid : Prop := Claim7.holds Tryd.pinned (.plain (OpenSpec.ofChange fnExactCellTextSpec)) fnExactCellTextCard

/-- THE TIED CARD OF 'laws.FnExactNfaFind'. -/
def fnExactNfaFindCard : Claim7 := { stood := { row := fnExactNfaFindRow, standIns := [], harness := (true, "aa4dcfaafb5798404e79392e3810b0c62995751b03eef205fda00068ebae1074"), looks := true }, kinds := [], alts := [], laidByText := true, laidKinds := [.data, .pinned], laidTests := true, laidLooks := .later }
def FnExactNfaFindCardSaid : Prop := Claim7.holds Tryd.pinned (.plain (OpenSpec.ofChange fnExactNfaFindSpec)) fnExactNfaFindCard

/-- THE TIED CARD OF 'laws.FnExactCsvText'. -/
def fnExactCsvTextCard : Claim7 := { stood := { row := fnExactCsvTextRow, standIns := [], harness := (true, "aa4dcfaafb5798404e79392e3810b0c62995751b03eef205fda00068ebae1074"), looks := true }, kinds := [], alts := [], laidByText := true, laidKinds := [.data, .pinned], laidTests := true, laidLooks := .later }
def FnExactCsvTextCardSaid : Prop := Claim7.holds Tryd.pinned (.plain (OpenSpec.ofChange fnExactCsvTextSpec)) fnExactCsvTextCard

/-- THE TIED CARD OF 'laws.FnExactRxText'. -/
def fnExactRxTextCard : Claim7 := { stood := { row := fnExactRxTextRow, standIns := [], harness := (true, "aa4dcfaafb5798404e79392e3810b0c62995751b03eef205fda00068ebae1074"), looks := true }, kinds := [], alts := [], laidByText := true, laidKinds := [.data, .data, .data], laidTests := true, laidLooks := .later }
def FnExactRxTextCardSaid : Prop := Claim7.holds Tryd.pinned (.plain (OpenSpec.ofChange fnExactRxTextSpec)) fnExactRxTextCard

/-- THE SECOND FORM's CARD OF 'laws.FnExactTsvRead'. -/
def fnExactTsvReadUptoCard : Claim7 := { stood := { row := fnExactTsvReadUptoRow, standIns := [], harness := (true, "aa4dcfaafb5798404e79392e3810b0c62995751b03eef205fda00068ebae1074"), looks := true }, kinds := [], alts := [], laidByText := true, laidKinds := [.data, .pinned], laidTests := true, laidLooks := .later }
def FnExactTsvReadUptoCardSaid : Prop := Claim7.holds Tryd.pinned (.plain (OpenSpec.upto fnExactTsvReadSpec)) fnExactTsvReadUptoCard

/-- THE SECOND FORM's CARD OF 'laws.FnExactCsvRead'. -/
def fnExactCsvReadUptoCard : Claim7 := { stood := { row := fnExactCsvReadUptoRow, standIns := [], harness := (true, "aa4dcfaafb5798404e79392e3810b0c62995751b03eef205fda00068ebae1074"), looks := true }, kinds := [], alts := [], laidByText := true, laidKinds := [.data, .pinned], laidTests := true, laidLooks := .later }
def FnExactCsvReadUptoCardSaid : Prop := Claim7.holds Tryd.pinned (.plain (OpenSpec.upto fnExactCsvReadSpec)) fnExactCsvReadUptoCard

/-- THE SECOND FORM's CARD OF 'laws.FnExactCellText'. -/
def fnExactCellTextUptoCard : Claim7 := { stood := { row := fnExactCellTextUptoRow, standIns := [], harness := (true, "aa4dcfaafb5798404e79392e3810b0c62995751b03eef205fda00068ebae1074"), looks := true }, kinds := [], alts := [], laidByText := true, laidKinds := [.data, .pinned], laidTests := true, laidLooks := .later }
def FnExactCellTextUptoCardSaid : Prop := Claim7.holds Tryd.pinned (.plain (OpenSpec.upto fnExactCellTextSpec)) fnExactCellTextUptoCard

/-- THE SECOND FORM's CARD OF 'laws.FnExactNfaFind'. -/
def fnExactNfaFindUptoCard : Claim7 := { stood := { row := fnExactNfaFindUptoRow, standIns := [], harness := (true, "aa4dcfaafb5798404e79392e3810b0c62995751b03eef205fda00068ebae1074"), looks := true }, kinds := [], alts := [], laidByText := true, laidKinds := [.data, .pinned], laidTests := true, laidLooks := .later }
def FnExactNfaFindUptoCardSaid : Prop := Claim7.holds Tryd.pinned (.plain (OpenSpec.upto fnExactNfaFindSpec)) fnExactNfaFindUptoCard

/-- THE SECOND FORM's CARD OF 'laws.FnExactCsvText'. -/
def fnExactCsvTextUptoCard : Claim7 := { stood := { row := fnExactCsvTextUptoRow, standIns := [], harness := (true, "aa4dcfaafb5798404e79392e3810b0c62995751b03eef205fda00068ebae1074"), looks := true }, kinds := [], alts := [], laidByText := true, laidKinds := [.data, .pinned], laidTests := true, laidLooks := .later }
def FnExactCsvTextUptoCardSaid : Prop := Claim7.holds Tryd.pinned (.plain (OpenSpec.upto fnExactCsvTextSpec)) fnExactCsvTextUptoCard

/-- THE SECOND FORM's CARD OF 'laws.FnExactRxText'. -/
def fnExactRxTextUptoCard : Claim7 := { stood := { row := fnExactRxTextUptoRow, standIns := [], harness := (true, "aa4dcfaafb5798404e79392e3810b0c62995751b03eef205fda00068ebae1074"), looks := true }, kinds := [], alts := [], laidByText := true, laidKinds := [.data, .data, .data], laidTests := true, laidLooks := .later }
def FnExactRxTextUptoCardSaid : Prop := Claim7.holds Tryd.pinned (.plain (OpenSpec.upto fnExactRxTextSpec)) fnExactRxTextUptoCard
end Rows
end Go.Proofs.YthpdmipgnoidpaaDoor

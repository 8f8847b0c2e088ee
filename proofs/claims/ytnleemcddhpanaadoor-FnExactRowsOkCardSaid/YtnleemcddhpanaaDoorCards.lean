/-
  DERIVED. GIVEN WITH THE SEED: THE CARDS: each row of YtnleemcddhpanaaDoorRows.lean that lists a variable, with what it lists TIED to the program's text (the seventh form; the later family's looks); each row that meets fmt, with fmt's text TOLD by the authors' own Lean function (tested against real Go, not proved from fmt's source: count such statements apart). THE CARD IS WHAT COUNTS. Prove the row's statement (the work); the ties are given (YtnleemcddhpanaaDoorTie.lean); close each card by the builder's one call (the guide's Derived/Test/ToyasCard.lean, 'card_holds'). Laid BY PROGRAM, IN A SANDBOX (cutbox-door.mjs). By AI agents, Wed Nov 11 2026. No macro, syntax, notation, axiom, sorry.
-/
import Derived.Test.YtnleemcddhpanaaDoorRows
import GoSem.ClaimSeven
namespace Go.Proofs.YtnleemcddhpanaaDoor
namespace Rows

/-- THE TIED CARD OF 'laws.FnExactBlanks'. -/
def fnExactBlanksCard : Claim7 := { stood := { row := fnExactBlanksRow, standIns := [], harness := (true, "db1d8c41fc9c3573dc3e7985ff9cdc94eee0a0ec19bd1bfb105132afa0b9d006"), looks := false }, kinds := [], alts := [], laidByText := true, laidKinds := [.data, .pinned], laidTests := true, laidLooks := .later }
def FnExactBlanksCardSaid : Prop := Claim7.holds Tryd.pinned (.plain (OpenSpec.ofChange fnExactBlanksSpec)) fnExactBlanksCard

/-- THE TIED CARD OF 'laws.FnExactRowsOk'. -/
def fnExactRowsOkCard : Claim7 := { stood := { row := fnExactRowsOkRow, standIns := [], harness := (true, "db1d8c41fc9c3573dc3e7985ff9cdc94eee0a0ec19bd1bfb105132afa0b9d006"), looks := false }, kinds := [], alts := [], laidByText := true, laidKinds := [.data, .pinned], laidTests := true, laidLooks := .later }
def FnExactRowsOkCardSaid : Prop := Claim7.holds Tryd.pinned (.plain (OpenSpec.ofChange fnExactRowsOkSpec)) fnExactRowsOkCard

/-- THE TIED CARD OF 'laws.FnExactTsvRead'. -/
def fnExactTsvReadCard : Claim7 := { stood := { row := fnExactTsvReadRow, standIns := [], harness := (true, "db1d8c41fc9c3573dc3e7985ff9cdc94eee0a0ec19bd1bfb105132afa0b9d006"), looks := false }, kinds := [], alts := [], laidByText := true, laidKinds := [.data, .pinned], laidTests := true, laidLooks := .later }
def FnExactTsvReadCardSaid : Prop := Claim7.holds Tryd.pinned (.plain (OpenSpec.ofChange fnExactTsvReadSpec)) fnExactTsvReadCard

/-- THE TIED CARD OF 'laws.FnExactCsvRead'. -/
def fnExactCsvReadCard : Claim7 := { stood := { row := fnExactCsvReadRow, standIns := [], harness := (true, "db1d8c41fc9c3573dc3e7985ff9cdc94eee0a0ec19bd1bfb105132afa0b9d006"), looks := false }, kinds := [], alts := [], laidByText := true, laidKinds := [.data, .pinned], laidTests := true, laidLooks := .later }
def FnExactCsvReadCardSaid : Prop := Claim7.holds Tryd.pinned (.plain (OpenSpec.ofChange fnExactCsvReadSpec)) fnExactCsvReadCard

/-- THE TIED CARD OF 'laws.FnExactSplitText'. -/
def fnExactSplitTextCard : Claim7 := { stood := { row := fnExactSplitTextRow, standIns := [], harness := (true, "db1d8c41fc9c3573dc3e7985ff9cdc94eee0a0ec19bd1bfb105132afa0b9d006"), looks := false }, kinds := [], alts := [], laidByText := true, laidKinds := [.data, .pinned], laidTests := true, laidLooks := .later }
def FnExactSplitTextCardSaid : Prop := Claim7.holds Tryd.pinned (.plain (OpenSpec.ofChange fnExactSplitTextSpec)) fnExactSplitTextCard

/-- THE TIED CARD OF 'laws.FnExactLines'. -/
def fnExactLinesCard : Claim7 := { stood := { row := fnExactLinesRow, standIns := [], harness := (true, "db1d8c41fc9c3573dc3e7985ff9cdc94eee0a0ec19bd1bfb105132afa0b9d006"), looks := false }, kinds := [], alts := [], laidByText := true, laidKinds := [.data, .pinned], laidTests := true, laidLooks := .later }
def FnExactLinesCardSaid : Prop := Claim7.holds Tryd.pinned (.plain (OpenSpec.ofChange fnExactLinesSpec)) fnExactLinesCard

/-- THE SECOND FORM's CARD OF 'laws.FnExactBlanks'. -/
def fnExactBlanksUptoCard : Claim7 := { stood := { row := fnExactBlanksUptoRow, standIns := [], harness := (true, "db1d8c41fc9c3573dc3e7985ff9cdc94eee0a0ec19bd1bfb105132afa0b9d006"), looks := false }, kinds := [], alts := [], laidByText := true, laidKinds := [.data, .pinned], laidTests := true, laidLooks := .later }
def FnExactBlanksUptoCardSaid : Prop := Claim7.holds Tryd.pinned (.plain (OpenSpec.upto fnExactBlanksSpec)) fnExactBlanksUptoCard

/-- THE SECOND FORM's CARD OF 'laws.FnExactRowsOk'. -/
def fnExactRowsOkUptoCard : Claim7 := { stood := { row := fnExactRowsOkUptoRow, standIns := [], harness := (true, "db1d8c41fc9c3573dc3e7985ff9cdc94eee0a0ec19bd1bfb105132afa0b9d006"), looks := false }, kinds := [], alts := [], laidByText := true, laidKinds := [.data, .pinned], laidTests := true, laidLooks := .later }
def FnExactRowsOkUptoCardSaid : Prop := Claim7.holds Tryd.pinned (.plain (OpenSpec.upto fnExactRowsOkSpec)) fnExactRowsOkUptoCard

/-- THE SECOND FORM's CARD OF 'laws.FnExactTsvRead'. -/
def fnExactTsvReadUptoCard : Claim7 := { stood := { row := fnExactTsvReadUptoRow, standIns := [], harness := (true, "db1d8c41fc9c3573dc3e7985ff9cdc94eee0a0ec19bd1bfb105132afa0b9d006"), looks := false }, kinds := [], alts := [], laidByText := true, laidKinds := [.data, .pinned], laidTests := true, laidLooks := .later }
def FnExactTsvReadUptoCardSaid : Prop := Claim7.holds Tryd.pinned (.plain (OpenSpec.upto fnExactTsvReadSpec)) fnExactTsvReadUptoCard

/-- THE SECOND FORM's CARD OF 'laws.FnExactCsvRead'. -/
def fnExactCsvReadUptoCard : Claim7 := { stood := { row := fnExactCsvReadUptoRow, standIns := [], harness := (true, "db1d8c41fc9c3573dc3e7985ff9cdc94eee0a0ec19bd1bfb105132afa0b9d006"), looks := false }, kinds := [], alts := [], laidByText := true, laidKinds := [.data, .pinned], laidTests := true, laidLooks := .later }
def FnExactCsvReadUptoCardSaid : Prop := Claim7.holds Tryd.pinned (.plain (OpenSpec.upto fnExactCsvReadSpec)) fnExactCsvReadUptoCard

/-- THE SECOND FORM's CARD OF 'laws.FnExactSplitText'. -/
def fnExactSplitTextUptoCard : Claim7 := { stood := { row := fnExactSplitTextUptoRow, standIns := [], harness := (true, "db1d8c41fc9c3573dc3e7985ff9cdc94eee0a0ec19bd1bfb105132afa0b9d006"), looks := false }, kinds := [], alts := [], laidByText := true, laidKinds := [.data, .pinned], laidTests := true, laidLooks := .later }
def FnExactSplitTextUptoCardSaid : Prop := Claim7.holds Tryd.pinned (.plain (OpenSpec.upto fnExactSplitTextSpec)) fnExactSplitTextUptoCard

/-- THE SECOND FORM's CARD OF 'laws.FnExactLines'. -/
def fnExactLinesUptoCard : Claim7 := { stood := { row := fnExactLinesUptoRow, standIns := [], harness := (true, "db1d8c41fc9c3573dc3e7985ff9cdc94eee0a0ec19bd1bfb105132afa0b9d006"), looks := false }, kinds := [], alts := [], laidByText := true, laidKinds := [.data, .pinned], laidTests := true, laidLooks := .later }
def FnExactLinesUptoCardSaid : Prop := Claim7.holds Tryd.pinned (.plain (OpenSpec.upto fnExactLinesSpec)) fnExactLinesUptoCard
end Rows
end Go.Proofs.YtnleemcddhpanaaDoor

/-
  DERIVED. GIVEN WITH THE SEED: THE CARDS: each row of YtnlncjgbdjdhjaaDoorRows.lean that lists a variable, with what it lists TIED to the program's text (the seventh form; the later family's looks); each row that meets fmt, with fmt's text TOLD by the authors' own Lean function (tested against real Go, not proved from fmt's source: count such statements apart). THE CARD IS WHAT COUNTS. Prove the row's statement (the work); the ties are given (YtnlncjgbdjdhjaaDoorTie.lean); close each card by the builder's one call (the guide's Derived/Test/ToyasCard.lean, 'card_holds'). Laid BY PROGRAM, IN A SANDBOX (cutbox-door.mjs). By AI agents, Wed Nov 11 2026. No macro, syntax, notation, axiom, sorry.
-/
import Derived.Test.YtnlncjgbdjdhjaaDoorRows
import GoSem.ClaimSeven
namespace Go.Proofs.YtnlncjgbdjdhjaaDoor
namespace Rows

/-- THE TIED CARD OF 'laws.FnExactTextOk'. -/
def fnExactTextOkCard : Claim7 := { stood := { row := fnExactTextOkRow, standIns := [], harness := (true, "4d77cd917cb92285399c93aae24f3edfa0983a00109f15035fb04cb934aa79f4"), looks := false }, kinds := [], alts := [], laidByText := true, laidKinds := [.data, .pinned], laidTests := true, laidLooks := .later }
def FnExactTextOkCardSaid : Prop := Claim7.holds Tryd.pinned (.plain (OpenSpec.ofChange fnExactTextOkSpec)) fnExactTextOkCard

/-- THE TIED CARD OF 'laws.FnExactLength'. -/
def fnExactLengthCard : Claim7 := { stood := { row := fnExactLengthRow, standIns := [], harness := (true, "4d77cd917cb92285399c93aae24f3edfa0983a00109f15035fb04cb934aa79f4"), looks := false }, kinds := [], alts := [], laidByText := true, laidKinds := [.data, .pinned], laidTests := true, laidLooks := .later }
def FnExactLengthCardSaid : Prop := Claim7.holds Tryd.pinned (.plain (OpenSpec.ofChange fnExactLengthSpec)) fnExactLengthCard

/-- THE TIED CARD OF 'laws.FnExactRunes'. -/
def fnExactRunesCard : Claim7 := { stood := { row := fnExactRunesRow, standIns := [], harness := (true, "4d77cd917cb92285399c93aae24f3edfa0983a00109f15035fb04cb934aa79f4"), looks := false }, kinds := [], alts := [], laidByText := true, laidKinds := [.data, .pinned], laidTests := true, laidLooks := .later }
def FnExactRunesCardSaid : Prop := Claim7.holds Tryd.pinned (.plain (OpenSpec.ofChange fnExactRunesSpec)) fnExactRunesCard

/-- THE TIED CARD OF 'laws.FnExactLower'. -/
def fnExactLowerCard : Claim7 := { stood := { row := fnExactLowerRow, standIns := [], harness := (true, "4d77cd917cb92285399c93aae24f3edfa0983a00109f15035fb04cb934aa79f4"), looks := false }, kinds := [], alts := [], laidByText := true, laidKinds := [.data, .pinned], laidTests := true, laidLooks := .later }
def FnExactLowerCardSaid : Prop := Claim7.holds Tryd.pinned (.plain (OpenSpec.ofChange fnExactLowerSpec)) fnExactLowerCard

/-- THE TIED CARD OF 'laws.FnExactUpper'. -/
def fnExactUpperCard : Claim7 := { stood := { row := fnExactUpperRow, standIns := [], harness := (true, "4d77cd917cb92285399c93aae24f3edfa0983a00109f15035fb04cb934aa79f4"), looks := false }, kinds := [], alts := [], laidByText := true, laidKinds := [.data, .pinned], laidTests := true, laidLooks := .later }
def FnExactUpperCardSaid : Prop := Claim7.holds Tryd.pinned (.plain (OpenSpec.ofChange fnExactUpperSpec)) fnExactUpperCard

/-- THE TIED CARD OF 'laws.FnExactQuote'. -/
def fnExactQuoteCard : Claim7 := { stood := { row := fnExactQuoteRow, standIns := [], harness := (true, "4d77cd917cb92285399c93aae24f3edfa0983a00109f15035fb04cb934aa79f4"), looks := false }, kinds := [], alts := [], laidByText := true, laidKinds := [.data, .pinned], laidTests := true, laidLooks := .later }
def FnExactQuoteCardSaid : Prop := Claim7.holds Tryd.pinned (.plain (OpenSpec.ofChange fnExactQuoteSpec)) fnExactQuoteCard

/-- THE TIED CARD OF 'laws.FnExactNumText'. -/
def fnExactNumTextCard : Claim7 := { stood := { row := fnExactNumTextRow, standIns := [], harness := (true, "4d77cd917cb92285399c93aae24f3edfa0983a00109f15035fb04cb934aa79f4"), looks := false }, kinds := [], alts := [], laidByText := true, laidKinds := [.data, .data, .data], laidTests := true, laidLooks := .later }
def FnExactNumTextCardSaid : Prop := Claim7.holds Tryd.pinned (.plain (OpenSpec.ofChange fnExactNumTextSpec)) fnExactNumTextCard

/-- THE TIED CARD OF 'laws.FnExactPart'. -/
def fnExactPartCard : Claim7 := { stood := { row := fnExactPartRow, standIns := [], harness := (true, "4d77cd917cb92285399c93aae24f3edfa0983a00109f15035fb04cb934aa79f4"), looks := false }, kinds := [], alts := [], laidByText := true, laidKinds := [.data, .pinned], laidTests := true, laidLooks := .later }
def FnExactPartCardSaid : Prop := Claim7.holds Tryd.pinned (.plain (OpenSpec.ofChange fnExactPartSpec)) fnExactPartCard

/-- THE TIED CARD OF 'laws.FnExactJsonString'. -/
def fnExactJsonStringCard : Claim7 := { stood := { row := fnExactJsonStringRow, standIns := [], harness := (true, "4d77cd917cb92285399c93aae24f3edfa0983a00109f15035fb04cb934aa79f4"), looks := false }, kinds := [], alts := [], laidByText := true, laidKinds := [.data, .pinned], laidTests := true, laidLooks := .later }
def FnExactJsonStringCardSaid : Prop := Claim7.holds Tryd.pinned (.plain (OpenSpec.ofChange fnExactJsonStringSpec)) fnExactJsonStringCard

/-- THE TIED CARD OF 'laws.FnExactFind'. -/
def fnExactFindCard : Claim7 := { stood := { row := fnExactFindRow, standIns := [], harness := (true, "4d77cd917cb92285399c93aae24f3edfa0983a00109f15035fb04cb934aa79f4"), looks := false }, kinds := [], alts := [], laidByText := true, laidKinds := [.data, .pinned], laidTests := true, laidLooks := .later }
def FnExactFindCardSaid : Prop := Claim7.holds Tryd.pinned (.plain (OpenSpec.ofChange fnExactFindSpec)) fnExactFindCard

/-- THE SECOND FORM's CARD OF 'laws.FnExactTextOk'. -/
def fnExactTextOkUptoCard : Claim7 := { stood := { row := fnExactTextOkUptoRow, standIns := [], harness := (true, "4d77cd917cb92285399c93aae24f3edfa0983a00109f15035fb04cb934aa79f4"), looks := false }, kinds := [], alts := [], laidByText := true, laidKinds := [.data, .pinned], laidTests := true, laidLooks := .later }
def FnExactTextOkUptoCardSaid : Prop := Claim7.holds Tryd.pinned (.plain (OpenSpec.upto fnExactTextOkSpec)) fnExactTextOkUptoCard

/-- THE SECOND FORM's CARD OF 'laws.FnExactLength'. -/
def fnExactLengthUptoCard : Claim7 := { stood := { row := fnExactLengthUptoRow, standIns := [], harness := (true, "4d77cd917cb92285399c93aae24f3edfa0983a00109f15035fb04cb934aa79f4"), looks := false }, kinds := [], alts := [], laidByText := true, laidKinds := [.data, .pinned], laidTests := true, laidLooks := .later }
def FnExactLengthUptoCardSaid : Prop := Claim7.holds Tryd.pinned (.plain (OpenSpec.upto fnExactLengthSpec)) fnExactLengthUptoCard

/-- THE SECOND FORM's CARD OF 'laws.FnExactRunes'. -/
def fnExactRunesUptoCard : Claim7 := { stood := { row := fnExactRunesUptoRow, standIns := [], harness := (true, "4d77cd917cb92285399c93aae24f3edfa0983a00109f15035fb04cb934aa79f4"), looks := false }, kinds := [], alts := [], laidByText := true, laidKinds := [.data, .pinned], laidTests := true, laidLooks := .later }
def FnExactRunesUptoCardSaid : Prop := Claim7.holds Tryd.pinned (.plain (OpenSpec.upto fnExactRunesSpec)) fnExactRunesUptoCard

/-- THE SECOND FORM's CARD OF 'laws.FnExactLower'. -/
def fnExactLowerUptoCard : Claim7 := { stood := { row := fnExactLowerUptoRow, standIns := [], harness := (true, "4d77cd917cb92285399c93aae24f3edfa0983a00109f15035fb04cb934aa79f4"), looks := false }, kinds := [], alts := [], laidByText := true, laidKinds := [.data, .pinned], laidTests := true, laidLooks := .later }
def FnExactLowerUptoCardSaid : Prop := Claim7.holds Tryd.pinned (.plain (OpenSpec.upto fnExactLowerSpec)) fnExactLowerUptoCard

/-- THE SECOND FORM's CARD OF 'laws.FnExactUpper'. -/
def fnExactUpperUptoCard : Claim7 := { stood := { row := fnExactUpperUptoRow, standIns := [], harness := (true, "4d77cd917cb92285399c93aae24f3edfa0983a00109f15035fb04cb934aa79f4"), looks := false }, kinds := [], alts := [], laidByText := true, laidKinds := [.data, .pinned], laidTests := true, laidLooks := .later }
def FnExactUpperUptoCardSaid : Prop := Claim7.holds Tryd.pinned (.plain (OpenSpec.upto fnExactUpperSpec)) fnExactUpperUptoCard

/-- THE SECOND FORM's CARD OF 'laws.FnExactQuote'. -/
def fnExactQuoteUptoCard : Claim7 := { stood := { row := fnExactQuoteUptoRow, standIns := [], harness := (true, "4d77cd917cb92285399c93aae24f3edfa0983a00109f15035fb04cb934aa79f4"), looks := false }, kinds := [], alts := [], laidByText := true, laidKinds := [.data, .pinned], laidTests := true, laidLooks := .later }
def FnExactQuoteUptoCardSaid : Prop := Claim7.holds Tryd.pinned (.plain (OpenSpec.upto fnExactQuoteSpec)) fnExactQuoteUptoCard

/-- THE SECOND FORM's CARD OF 'laws.FnExactNumText'. -/
def fnExactNumTextUptoCard : Claim7 := { stood := { row := fnExactNumTextUptoRow, standIns := [], harness := (true, "4d77cd917cb92285399c93aae24f3edfa0983a00109f15035fb04cb934aa79f4"), looks := false }, kinds := [], alts := [], laidByText := true, laidKinds := [.data, .data, .data], laidTests := true, laidLooks := .later }
def FnExactNumTextUptoCardSaid : Prop := Claim7.holds Tryd.pinned (.plain (OpenSpec.upto fnExactNumTextSpec)) fnExactNumTextUptoCard

/-- THE SECOND FORM's CARD OF 'laws.FnExactPart'. -/
def fnExactPartUptoCard : Claim7 := { stood := { row := fnExactPartUptoRow, standIns := [], harness := (true, "4d77cd917cb92285399c93aae24f3edfa0983a00109f15035fb04cb934aa79f4"), looks := false }, kinds := [], alts := [], laidByText := true, laidKinds := [.data, .pinned], laidTests := true, laidLooks := .later }
def FnExactPartUptoCardSaid : Prop := Claim7.holds Tryd.pinned (.plain (OpenSpec.upto fnExactPartSpec)) fnExactPartUptoCard

/-- THE SECOND FORM's CARD OF 'laws.FnExactJsonString'. -/
def fnExactJsonStringUptoCard : Claim7 := { stood := { row := fnExactJsonStringUptoRow, standIns := [], harness := (true, "4d77cd917cb92285399c93aae24f3edfa0983a00109f15035fb04cb934aa79f4"), looks := false }, kinds := [], alts := [], laidByText := true, laidKinds := [.data, .pinned], laidTests := true, laidLooks := .later }
def FnExactJsonStringUptoCardSaid : Prop := Claim7.holds Tryd.pinned (.plain (OpenSpec.upto fnExactJsonStringSpec)) fnExactJsonStringUptoCard

/-- THE SECOND FORM's CARD OF 'laws.FnExactFind'. -/
def fnExactFindUptoCard : Claim7 := { stood := { row := fnExactFindUptoRow, standIns := [], harness := (true, "4d77cd917cb92285399c93aae24f3edfa0983a00109f15035fb04cb934aa79f4"), looks := false }, kinds := [], alts := [], laidByText := true, laidKinds := [.data, .pinned], laidTests := true, laidLooks := .later }
def FnExactFindUptoCardSaid : Prop := Claim7.holds Tryd.pinned (.plain (OpenSpec.upto fnExactFindSpec)) fnExactFindUptoCard
end Rows
end Go.Proofs.YtnlncjgbdjdhjaaDoor

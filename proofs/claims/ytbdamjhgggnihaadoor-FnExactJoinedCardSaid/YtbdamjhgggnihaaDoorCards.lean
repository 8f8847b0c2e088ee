/-
  DERIVED. GIVEN WITH THE SEED: THE CARDS: each row of YtbdamjhgggnihaaDoorRows.lean that lists a variable, with what it lists TIED to the program's text (the seventh form; the later family's looks); each row that meets fmt, with fmt's text TOLD by the authors' own Lean function (tested against real Go, not proved from fmt's source: count such statements apart). THE CARD IS WHAT COUNTS. Prove the row's statement (the work); the ties are given (YtbdamjhgggnihaaDoorTie.lean); close each card by the builder's one call (the guide's Derived/Test/ToyasCard.lean, 'card_holds'). Laid BY PROGRAM, IN A SANDBOX (cutbox-door.mjs). By AI agents, Wed Nov 11 2026. No macro, syntax, notation, axiom, sorry.
-/
import Derived.Test.YtbdamjhgggnihaaDoorRows
import GoSem.ClaimSeven
namespace Go.Proofs.YtbdamjhgggnihaaDoor
namespace Rows

/-- THE TIED CARD OF 'laws.FnExactRunes'. -/
def fnExactRunesCard : Claim7 := { stood := { row := fnExactRunesRow, standIns := [], harness := (true, "1ff72606e2017613aca64d0d9bf87b94f3b5815c33f3b8856c5de0ac5add1f14"), looks := false }, kinds := [], alts := [], laidByText := true, laidKinds := [.data, .pinned], laidTests := true, laidLooks := .later }
def FnExactRunesCardSaid : Prop := Claim7.holds Tryd.pinned (.plain (OpenSpec.ofChange fnExactRunesSpec)) fnExactRunesCard

/-- THE TIED CARD OF 'laws.FnExactLower'. -/
def fnExactLowerCard : Claim7 := { stood := { row := fnExactLowerRow, standIns := [], harness := (true, "1ff72606e2017613aca64d0d9bf87b94f3b5815c33f3b8856c5de0ac5add1f14"), looks := false }, kinds := [], alts := [], laidByText := true, laidKinds := [.data, .pinned], laidTests := true, laidLooks := .later }
def FnExactLowerCardSaid : Prop := Claim7.holds Tryd.pinned (.plain (OpenSpec.ofChange fnExactLowerSpec)) fnExactLowerCard

/-- THE TIED CARD OF 'laws.FnExactUpper'. -/
def fnExactUpperCard : Claim7 := { stood := { row := fnExactUpperRow, standIns := [], harness := (true, "1ff72606e2017613aca64d0d9bf87b94f3b5815c33f3b8856c5de0ac5add1f14"), looks := false }, kinds := [], alts := [], laidByText := true, laidKinds := [.data, .pinned], laidTests := true, laidLooks := .later }
def FnExactUpperCardSaid : Prop := Claim7.holds Tryd.pinned (.plain (OpenSpec.ofChange fnExactUpperSpec)) fnExactUpperCard

/-- THE TIED CARD OF 'laws.FnExactQuote'. -/
def fnExactQuoteCard : Claim7 := { stood := { row := fnExactQuoteRow, standIns := [], harness := (true, "1ff72606e2017613aca64d0d9bf87b94f3b5815c33f3b8856c5de0ac5add1f14"), looks := false }, kinds := [], alts := [], laidByText := true, laidKinds := [.data, .pinned], laidTests := true, laidLooks := .later }
def FnExactQuoteCardSaid : Prop := Claim7.holds Tryd.pinned (.plain (OpenSpec.ofChange fnExactQuoteSpec)) fnExactQuoteCard

/-- THE TIED CARD OF 'laws.FnExactJsonString'. -/
def fnExactJsonStringCard : Claim7 := { stood := { row := fnExactJsonStringRow, standIns := [], harness := (true, "1ff72606e2017613aca64d0d9bf87b94f3b5815c33f3b8856c5de0ac5add1f14"), looks := false }, kinds := [], alts := [], laidByText := true, laidKinds := [.data, .pinned], laidTests := true, laidLooks := .later }
def FnExactJsonStringCardSaid : Prop := Claim7.holds Tryd.pinned (.plain (OpenSpec.ofChange fnExactJsonStringSpec)) fnExactJsonStringCard

/-- THE TIED CARD OF 'laws.FnExactPart'. -/
def fnExactPartCard : Claim7 := { stood := { row := fnExactPartRow, standIns := [], harness := (true, "1ff72606e2017613aca64d0d9bf87b94f3b5815c33f3b8856c5de0ac5add1f14"), looks := false }, kinds := [], alts := [], laidByText := true, laidKinds := [.data, .pinned], laidTests := true, laidLooks := .later }
def FnExactPartCardSaid : Prop := Claim7.holds Tryd.pinned (.plain (OpenSpec.ofChange fnExactPartSpec)) fnExactPartCard

/-- THE TIED CARD OF 'laws.FnExactFind'. -/
def fnExactFindCard : Claim7 := { stood := { row := fnExactFindRow, standIns := [], harness := (true, "1ff72606e2017613aca64d0d9bf87b94f3b5815c33f3b8856c5de0ac5add1f14"), looks := false }, kinds := [], alts := [], laidByText := true, laidKinds := [.data, .pinned], laidTests := true, laidLooks := .later }
def FnExactFindCardSaid : Prop := Claim7.holds Tryd.pinned (.plain (OpenSpec.ofChange fnExactFindSpec)) fnExactFindCard

/-- THE TIED CARD OF 'laws.FnExactFileOk'. -/
def fnExactFileOkCard : Claim7 := { stood := { row := fnExactFileOkRow, standIns := [], harness := (true, "1ff72606e2017613aca64d0d9bf87b94f3b5815c33f3b8856c5de0ac5add1f14"), looks := false }, kinds := [], alts := [], laidByText := true, laidKinds := [.data, .pinned], laidTests := true, laidLooks := .later }
def FnExactFileOkCardSaid : Prop := Claim7.holds Tryd.pinned (.plain (OpenSpec.ofChange fnExactFileOkSpec)) fnExactFileOkCard

/-- THE TIED CARD OF 'laws.FnExactJoined'. -/
def fnExactJoinedCard : Claim7 := { stood := { row := fnExactJoinedRow, standIns := [], harness := (true, "1ff72606e2017613aca64d0d9bf87b94f3b5815c33f3b8856c5de0ac5add1f14"), looks := false }, kinds := [], alts := [], laidByText := true, laidKinds := [.data, .pinned], laidTests := true, laidLooks := .later }
def FnExactJoinedCardSaid : Prop := Claim7.holds Tryd.pinned (.plain (OpenSpec.ofChange fnExactJoinedSpec)) fnExactJoinedCard

/-- THE SECOND FORM's CARD OF 'laws.FnExactRunes'. -/
def fnExactRunesUptoCard : Claim7 := { stood := { row := fnExactRunesUptoRow, standIns := [], harness := (true, "1ff72606e2017613aca64d0d9bf87b94f3b5815c33f3b8856c5de0ac5add1f14"), looks := false }, kinds := [], alts := [], laidByText := true, laidKinds := [.data, .pinned], laidTests := true, laidLooks := .later }
def FnExactRunesUptoCardSaid : Prop := Claim7.holds Tryd.pinned (.plain (OpenSpec.upto fnExactRunesSpec)) fnExactRunesUptoCard

/-- THE SECOND FORM's CARD OF 'laws.FnExactLower'. -/
def fnExactLowerUptoCard : Claim7 := { stood := { row := fnExactLowerUptoRow, standIns := [], harness := (true, "1ff72606e2017613aca64d0d9bf87b94f3b5815c33f3b8856c5de0ac5add1f14"), looks := false }, kinds := [], alts := [], laidByText := true, laidKinds := [.data, .pinned], laidTests := true, laidLooks := .later }
def FnExactLowerUptoCardSaid : Prop := Claim7.holds Tryd.pinned (.plain (OpenSpec.upto fnExactLowerSpec)) fnExactLowerUptoCard

/-- THE SECOND FORM's CARD OF 'laws.FnExactUpper'. -/
def fnExactUpperUptoCard : Claim7 := { stood := { row := fnExactUpperUptoRow, standIns := [], harness := (true, "1ff72606e2017613aca64d0d9bf87b94f3b5815c33f3b8856c5de0ac5add1f14"), looks := false }, kinds := [], alts := [], laidByText := true, laidKinds := [.data, .pinned], laidTests := true, laidLooks := .later }
def FnExactUpperUptoCardSaid : Prop := Claim7.holds Tryd.pinned (.plain (OpenSpec.upto fnExactUpperSpec)) fnExactUpperUptoCard

/-- THE SECOND FORM's CARD OF 'laws.FnExactQuote'. -/
def fnExactQuoteUptoCard : Claim7 := { stood := { row := fnExactQuoteUptoRow, standIns := [], harness := (true, "1ff72606e2017613aca64d0d9bf87b94f3b5815c33f3b8856c5de0ac5add1f14"), looks := false }, kinds := [], alts := [], laidByText := true, laidKinds := [.data, .pinned], laidTests := true, laidLooks := .later }
def FnExactQuoteUptoCardSaid : Prop := Claim7.holds Tryd.pinned (.plain (OpenSpec.upto fnExactQuoteSpec)) fnExactQuoteUptoCard

/-- THE SECOND FORM's CARD OF 'laws.FnExactJsonString'. -/
def fnExactJsonStringUptoCard : Claim7 := { stood := { row := fnExactJsonStringUptoRow, standIns := [], harness := (true, "1ff72606e2017613aca64d0d9bf87b94f3b5815c33f3b8856c5de0ac5add1f14"), looks := false }, kinds := [], alts := [], laidByText := true, laidKinds := [.data, .pinned], laidTests := true, laidLooks := .later }
def FnExactJsonStringUptoCardSaid : Prop := Claim7.holds Tryd.pinned (.plain (OpenSpec.upto fnExactJsonStringSpec)) fnExactJsonStringUptoCard

/-- THE SECOND FORM's CARD OF 'laws.FnExactPart'. -/
def fnExactPartUptoCard : Claim7 := { stood := { row := fnExactPartUptoRow, standIns := [], harness := (true, "1ff72606e2017613aca64d0d9bf87b94f3b5815c33f3b8856c5de0ac5add1f14"), looks := false }, kinds := [], alts := [], laidByText := true, laidKinds := [.data, .pinned], laidTests := true, laidLooks := .later }
def FnExactPartUptoCardSaid : Prop := Claim7.holds Tryd.pinned (.plain (OpenSpec.upto fnExactPartSpec)) fnExactPartUptoCard

/-- THE SECOND FORM's CARD OF 'laws.FnExactFind'. -/
def fnExactFindUptoCard : Claim7 := { stood := { row := fnExactFindUptoRow, standIns := [], harness := (true, "1ff72606e2017613aca64d0d9bf87b94f3b5815c33f3b8856c5de0ac5add1f14"), looks := false }, kinds := [], alts := [], laidByText := true, laidKinds := [.data, .pinned], laidTests := true, laidLooks := .later }
def FnExactFindUptoCardSaid : Prop := Claim7.holds Tryd.pinned (.plain (OpenSpec.upto fnExactFindSpec)) fnExactFindUptoCard

/-- THE SECOND FORM's CARD OF 'laws.FnExactFileOk'. -/
def fnExactFileOkUptoCard : Claim7 := { stood := { row := fnExactFileOkUptoRow, standIns := [], harness := (true, "1ff72606e2017613aca64d0d9bf87b94f3b5815c33f3b8856c5de0ac5add1f14"), looks := false }, kinds := [], alts := [], laidByText := true, laidKinds := [.data, .pinned], laidTests := true, laidLooks := .later }
def FnExactFileOkUptoCardSaid : Prop := Claim7.holds Tryd.pinned (.plain (OpenSpec.upto fnExactFileOkSpec)) fnExactFileOkUptoCard

/-- THE SECOND FORM's CARD OF 'laws.FnExactJoined'. -/
def fnExactJoinedUptoCard : Claim7 := { stood := { row := fnExactJoinedUptoRow, standIns := [], harness := (true, "1ff72606e2017613aca64d0d9bf87b94f3b5815c33f3b8856c5de0ac5add1f14"), looks := false }, kinds := [], alts := [], laidByText := true, laidKinds := [.data, .pinned], laidTests := true, laidLooks := .later }
def FnExactJoinedUptoCardSaid : Prop := Claim7.holds Tryd.pinned (.plain (OpenSpec.upto fnExactJoinedSpec)) fnExactJoinedUptoCard
end Rows
end Go.Proofs.YtbdamjhgggnihaaDoor

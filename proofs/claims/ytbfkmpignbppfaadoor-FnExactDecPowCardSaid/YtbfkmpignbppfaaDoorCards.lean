/-
  DERIVED. GIVEN WITH THE SEED: THE CARDS: each row of YtbfkmpignbppfaaDoorRows.lean that lists a variable, with what it lists TIED to the program's text (the seventh form; the later family's looks); each row that meets fmt, with fmt's text TOLD by the authors' own Lean function (tested against real Go, not proved from fmt's source: count such statements apart). THE CARD IS WHAT COUNTS. Prove the row's statement (the work); the ties are given (YtbfkmpignbppfaaDoorTie.lean); close each card by the builder's one call (the guide's Derived/Test/ToyasCard.lean, 'card_holds'). Laid BY PROGRAM, IN A SANDBOX (cutbox-door.mjs). By AI agents, Wed Nov 11 2026. No macro, syntax, notation, axiom, sorry.
-/
import Derived.Test.YtbfkmpignbppfaaDoorRows
import GoSem.ClaimSeven
namespace Go.Proofs.YtbfkmpignbppfaaDoor
namespace Rows

/-- THE TIED CARD OF 'laws.FnExactDecText'. -/
def fnExactDecTextCard : Claim7 := { stood := { row := fnExactDecTextRow, standIns := [], harness := (true, "bbfcb29bcdc8e1847d0f0e51fe6574b49f41350d3308092bb30ca99a825ffbb6"), looks := true }, kinds := [], alts := [], laidByText := true, laidKinds := [.data, .data, .data], laidTests := true, laidLooks := .later }
def FnExactDecTextCardSaid : Prop := Claim7.holds Tryd.pinned (.plain (OpenSpec.ofChange fnExactDecTextSpec)) fnExactDecTextCard

/-- THE TIED CARD OF 'laws.FnExactDecRead'. -/
def fnExactDecReadCard : Claim7 := { stood := { row := fnExactDecReadRow, standIns := [], harness := (true, "bbfcb29bcdc8e1847d0f0e51fe6574b49f41350d3308092bb30ca99a825ffbb6"), looks := true }, kinds := [], alts := [], laidByText := true, laidKinds := [.data, .data, .data, .data, .sentinel, .sentinel, .pinned], laidTests := true, laidLooks := .later }
def FnExactDecReadCardSaid : Prop := Claim7.holds Tryd.pinned (.plain (OpenSpec.ofChange fnExactDecReadSpec)) fnExactDecReadCard

/-- THE TIED CARD OF 'laws.FnExactDecOf'. -/
def fnExactDecOfCard : Claim7 := { stood := { row := fnExactDecOfRow, standIns := [], harness := (true, "bbfcb29bcdc8e1847d0f0e51fe6574b49f41350d3308092bb30ca99a825ffbb6"), looks := true }, kinds := [], alts := [], laidByText := true, laidKinds := [.data, .data, .data, .data, .pinned], laidTests := true, laidLooks := .later }
def FnExactDecOfCardSaid : Prop := Claim7.holds Tryd.pinned (.plain (OpenSpec.ofChange fnExactDecOfSpec)) fnExactDecOfCard

/-- THE TIED CARD OF 'laws.FnExactDecWhole'. -/
def fnExactDecWholeCard : Claim7 := { stood := { row := fnExactDecWholeRow, standIns := [], harness := (true, "bbfcb29bcdc8e1847d0f0e51fe6574b49f41350d3308092bb30ca99a825ffbb6"), looks := true }, kinds := [], alts := [], laidByText := true, laidKinds := [.data, .data, .data, .sentinel, .sentinel], laidTests := true, laidLooks := .later }
def FnExactDecWholeCardSaid : Prop := Claim7.holds Tryd.pinned (.plain (OpenSpec.ofChange fnExactDecWholeSpec)) fnExactDecWholeCard

/-- THE TIED CARD OF 'laws.FnExactDecAdd'. -/
def fnExactDecAddCard : Claim7 := { stood := { row := fnExactDecAddRow, standIns := [], harness := (true, "bbfcb29bcdc8e1847d0f0e51fe6574b49f41350d3308092bb30ca99a825ffbb6"), looks := true }, kinds := [], alts := [], laidByText := true, laidKinds := [.data, .pinned], laidTests := true, laidLooks := .later }
def FnExactDecAddCardSaid : Prop := Claim7.holds Tryd.pinned (.plain (OpenSpec.ofChange fnExactDecAddSpec)) fnExactDecAddCard

/-- THE TIED CARD OF 'laws.FnExactDecSub'. -/
def fnExactDecSubCard : Claim7 := { stood := { row := fnExactDecSubRow, standIns := [], harness := (true, "bbfcb29bcdc8e1847d0f0e51fe6574b49f41350d3308092bb30ca99a825ffbb6"), looks := true }, kinds := [], alts := [], laidByText := true, laidKinds := [.data, .pinned], laidTests := true, laidLooks := .later }
def FnExactDecSubCardSaid : Prop := Claim7.holds Tryd.pinned (.plain (OpenSpec.ofChange fnExactDecSubSpec)) fnExactDecSubCard

/-- THE TIED CARD OF 'laws.FnExactDecMul'. -/
def fnExactDecMulCard : Claim7 := { stood := { row := fnExactDecMulRow, standIns := [], harness := (true, "bbfcb29bcdc8e1847d0f0e51fe6574b49f41350d3308092bb30ca99a825ffbb6"), looks := true }, kinds := [], alts := [], laidByText := true, laidKinds := [.data, .pinned], laidTests := true, laidLooks := .later }
def FnExactDecMulCardSaid : Prop := Claim7.holds Tryd.pinned (.plain (OpenSpec.ofChange fnExactDecMulSpec)) fnExactDecMulCard

/-- THE TIED CARD OF 'laws.FnExactDecDiv'. -/
def fnExactDecDivCard : Claim7 := { stood := { row := fnExactDecDivRow, standIns := [], harness := (true, "bbfcb29bcdc8e1847d0f0e51fe6574b49f41350d3308092bb30ca99a825ffbb6"), looks := true }, kinds := [], alts := [], laidByText := true, laidKinds := [.data, .pinned], laidTests := true, laidLooks := .later }
def FnExactDecDivCardSaid : Prop := Claim7.holds Tryd.pinned (.plain (OpenSpec.ofChange fnExactDecDivSpec)) fnExactDecDivCard

/-- THE TIED CARD OF 'laws.FnExactDecMod'. -/
def fnExactDecModCard : Claim7 := { stood := { row := fnExactDecModRow, standIns := [], harness := (true, "bbfcb29bcdc8e1847d0f0e51fe6574b49f41350d3308092bb30ca99a825ffbb6"), looks := true }, kinds := [], alts := [], laidByText := true, laidKinds := [.data, .pinned], laidTests := true, laidLooks := .later }
def FnExactDecModCardSaid : Prop := Claim7.holds Tryd.pinned (.plain (OpenSpec.ofChange fnExactDecModSpec)) fnExactDecModCard

/-- THE TIED CARD OF 'laws.FnExactDecPow'. -/
def fnExactDecPowCard : Claim7 := { stood := { row := fnExactDecPowRow, standIns := [], harness := (true, "bbfcb29bcdc8e1847d0f0e51fe6574b49f41350d3308092bb30ca99a825ffbb6"), looks := true }, kinds := [], alts := [], laidByText := true, laidKinds := [.data, .pinned], laidTests := true, laidLooks := .later }
def FnExactDecPowCardSaid : Prop := Claim7.holds Tryd.pinned (.plain (OpenSpec.ofChange fnExactDecPowSpec)) fnExactDecPowCard

/-- THE TIED CARD OF 'laws.FnExactDecInt'. -/
def fnExactDecIntCard : Claim7 := { stood := { row := fnExactDecIntRow, standIns := [], harness := (true, "bbfcb29bcdc8e1847d0f0e51fe6574b49f41350d3308092bb30ca99a825ffbb6"), looks := true }, kinds := [], alts := [], laidByText := true, laidKinds := [.data, .pinned], laidTests := true, laidLooks := .later }
def FnExactDecIntCardSaid : Prop := Claim7.holds Tryd.pinned (.plain (OpenSpec.ofChange fnExactDecIntSpec)) fnExactDecIntCard

/-- THE SECOND FORM's CARD OF 'laws.FnExactDecText'. -/
def fnExactDecTextUptoCard : Claim7 := { stood := { row := fnExactDecTextUptoRow, standIns := [], harness := (true, "bbfcb29bcdc8e1847d0f0e51fe6574b49f41350d3308092bb30ca99a825ffbb6"), looks := true }, kinds := [], alts := [], laidByText := true, laidKinds := [.data, .data, .data], laidTests := true, laidLooks := .later }
def FnExactDecTextUptoCardSaid : Prop := Claim7.holds Tryd.pinned (.plain (OpenSpec.upto fnExactDecTextSpec)) fnExactDecTextUptoCard

/-- THE SECOND FORM's CARD OF 'laws.FnExactDecRead'. -/
def fnExactDecReadUptoCard : Claim7 := { stood := { row := fnExactDecReadUptoRow, standIns := [], harness := (true, "bbfcb29bcdc8e1847d0f0e51fe6574b49f41350d3308092bb30ca99a825ffbb6"), looks := true }, kinds := [], alts := [], laidByText := true, laidKinds := [.data, .data, .data, .data, .sentinel, .sentinel, .pinned], laidTests := true, laidLooks := .later }
def FnExactDecReadUptoCardSaid : Prop := Claim7.holds Tryd.pinned (.plain (OpenSpec.upto fnExactDecReadSpec)) fnExactDecReadUptoCard

/-- THE SECOND FORM's CARD OF 'laws.FnExactDecOf'. -/
def fnExactDecOfUptoCard : Claim7 := { stood := { row := fnExactDecOfUptoRow, standIns := [], harness := (true, "bbfcb29bcdc8e1847d0f0e51fe6574b49f41350d3308092bb30ca99a825ffbb6"), looks := true }, kinds := [], alts := [], laidByText := true, laidKinds := [.data, .data, .data, .data, .pinned], laidTests := true, laidLooks := .later }
def FnExactDecOfUptoCardSaid : Prop := Claim7.holds Tryd.pinned (.plain (OpenSpec.upto fnExactDecOfSpec)) fnExactDecOfUptoCard

/-- THE SECOND FORM's CARD OF 'laws.FnExactDecWhole'. -/
def fnExactDecWholeUptoCard : Claim7 := { stood := { row := fnExactDecWholeUptoRow, standIns := [], harness := (true, "bbfcb29bcdc8e1847d0f0e51fe6574b49f41350d3308092bb30ca99a825ffbb6"), looks := true }, kinds := [], alts := [], laidByText := true, laidKinds := [.data, .data, .data, .sentinel, .sentinel], laidTests := true, laidLooks := .later }
def FnExactDecWholeUptoCardSaid : Prop := Claim7.holds Tryd.pinned (.plain (OpenSpec.upto fnExactDecWholeSpec)) fnExactDecWholeUptoCard

/-- THE SECOND FORM's CARD OF 'laws.FnExactDecAdd'. -/
def fnExactDecAddUptoCard : Claim7 := { stood := { row := fnExactDecAddUptoRow, standIns := [], harness := (true, "bbfcb29bcdc8e1847d0f0e51fe6574b49f41350d3308092bb30ca99a825ffbb6"), looks := true }, kinds := [], alts := [], laidByText := true, laidKinds := [.data, .pinned], laidTests := true, laidLooks := .later }
def FnExactDecAddUptoCardSaid : Prop := Claim7.holds Tryd.pinned (.plain (OpenSpec.upto fnExactDecAddSpec)) fnExactDecAddUptoCard

/-- THE SECOND FORM's CARD OF 'laws.FnExactDecSub'. -/
def fnExactDecSubUptoCard : Claim7 := { stood := { row := fnExactDecSubUptoRow, standIns := [], harness := (true, "bbfcb29bcdc8e1847d0f0e51fe6574b49f41350d3308092bb30ca99a825ffbb6"), looks := true }, kinds := [], alts := [], laidByText := true, laidKinds := [.data, .pinned], laidTests := true, laidLooks := .later }
def FnExactDecSubUptoCardSaid : Prop := Claim7.holds Tryd.pinned (.plain (OpenSpec.upto fnExactDecSubSpec)) fnExactDecSubUptoCard

/-- THE SECOND FORM's CARD OF 'laws.FnExactDecMul'. -/
def fnExactDecMulUptoCard : Claim7 := { stood := { row := fnExactDecMulUptoRow, standIns := [], harness := (true, "bbfcb29bcdc8e1847d0f0e51fe6574b49f41350d3308092bb30ca99a825ffbb6"), looks := true }, kinds := [], alts := [], laidByText := true, laidKinds := [.data, .pinned], laidTests := true, laidLooks := .later }
def FnExactDecMulUptoCardSaid : Prop := Claim7.holds Tryd.pinned (.plain (OpenSpec.upto fnExactDecMulSpec)) fnExactDecMulUptoCard

/-- THE SECOND FORM's CARD OF 'laws.FnExactDecDiv'. -/
def fnExactDecDivUptoCard : Claim7 := { stood := { row := fnExactDecDivUptoRow, standIns := [], harness := (true, "bbfcb29bcdc8e1847d0f0e51fe6574b49f41350d3308092bb30ca99a825ffbb6"), looks := true }, kinds := [], alts := [], laidByText := true, laidKinds := [.data, .pinned], laidTests := true, laidLooks := .later }
def FnExactDecDivUptoCardSaid : Prop := Claim7.holds Tryd.pinned (.plain (OpenSpec.upto fnExactDecDivSpec)) fnExactDecDivUptoCard

/-- THE SECOND FORM's CARD OF 'laws.FnExactDecMod'. -/
def fnExactDecModUptoCard : Claim7 := { stood := { row := fnExactDecModUptoRow, standIns := [], harness := (true, "bbfcb29bcdc8e1847d0f0e51fe6574b49f41350d3308092bb30ca99a825ffbb6"), looks := true }, kinds := [], alts := [], laidByText := true, laidKinds := [.data, .pinned], laidTests := true, laidLooks := .later }
def FnExactDecModUptoCardSaid : Prop := Claim7.holds Tryd.pinned (.plain (OpenSpec.upto fnExactDecModSpec)) fnExactDecModUptoCard

/-- THE SECOND FORM's CARD OF 'laws.FnExactDecPow'. -/
def fnExactDecPowUptoCard : Claim7 := { stood := { row := fnExactDecPowUptoRow, standIns := [], harness := (true, "bbfcb29bcdc8e1847d0f0e51fe6574b49f41350d3308092bb30ca99a825ffbb6"), looks := true }, kinds := [], alts := [], laidByText := true, laidKinds := [.data, .pinned], laidTests := true, laidLooks := .later }
def FnExactDecPowUptoCardSaid : Prop := Claim7.holds Tryd.pinned (.plain (OpenSpec.upto fnExactDecPowSpec)) fnExactDecPowUptoCard

/-- THE SECOND FORM's CARD OF 'laws.FnExactDecInt'. -/
def fnExactDecIntUptoCard : Claim7 := { stood := { row := fnExactDecIntUptoRow, standIns := [], harness := (true, "bbfcb29bcdc8e1847d0f0e51fe6574b49f41350d3308092bb30ca99a825ffbb6"), looks := true }, kinds := [], alts := [], laidByText := true, laidKinds := [.data, .pinned], laidTests := true, laidLooks := .later }
def FnExactDecIntUptoCardSaid : Prop := Claim7.holds Tryd.pinned (.plain (OpenSpec.upto fnExactDecIntSpec)) fnExactDecIntUptoCard
end Rows
end Go.Proofs.YtbfkmpignbppfaaDoor

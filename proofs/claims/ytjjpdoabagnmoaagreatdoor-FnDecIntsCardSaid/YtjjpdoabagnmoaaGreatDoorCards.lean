/-
  DERIVED. GIVEN WITH THE SEED: THE CARDS: each row of YtjjpdoabagnmoaaGreatDoorRows.lean that lists a variable, with what it lists TIED to the program's text (the seventh form; the later family's looks); each row that meets fmt, with fmt's text TOLD by the authors' own Lean function (tested against real Go, not proved from fmt's source: count such statements apart). THE CARD IS WHAT COUNTS. Prove the row's statement (the work); the ties are given (YtjjpdoabagnmoaaGreatDoorTie.lean); close each card by the builder's one call (the guide's Derived/Test/ToyasCard.lean, 'card_holds'). Laid BY PROGRAM, IN A SANDBOX (cutbox-door.mjs). By AI agents, Wed Nov 11 2026. No macro, syntax, notation, axiom, sorry.
-/
import Derived.Test.YtjjpdoabagnmoaaGreatDoorRows
import GoSem.ClaimSeven
namespace Go.Proofs.YtjjpdoabagnmoaaGreatDoor
namespace Rows

/-- THE TIED CARD OF 'laws.FnExactPrefix'. -/
def fnExactPrefixCard : Claim7 := { stood := { row := fnExactPrefixRow, standIns := [], harness := (true, "0e8940b95920ea98badc75e9e7f82f3333a9b8034b34eab27c716ea097d4e7e3"), looks := true }, kinds := [], alts := [], laidByText := true, laidKinds := [.data, .data, .data, .data, .sentinel, .sentinel, .pinned], laidTests := true, laidLooks := .later }
def FnExactPrefixCardSaid : Prop := Claim7.holds Tryz.pinned (.plain (OpenSpec.ofChange fnExactPrefixSpec)) fnExactPrefixCard

/-- THE TIED CARD OF 'laws.FnExactLooks'. -/
def fnExactLooksCard : Claim7 := { stood := { row := fnExactLooksRow, standIns := [], harness := (true, "0e8940b95920ea98badc75e9e7f82f3333a9b8034b34eab27c716ea097d4e7e3"), looks := true }, kinds := [], alts := [], laidByText := true, laidKinds := [.data, .data, .data, .data, .sentinel, .sentinel, .pinned], laidTests := true, laidLooks := .later }
def FnExactLooksCardSaid : Prop := Claim7.holds Tryz.pinned (.plain (OpenSpec.ofChange fnExactLooksSpec)) fnExactLooksCard

/-- THE TIED CARD OF 'laws.FnLooksLike'. -/
def fnLooksLikeCard : Claim7 := { stood := { row := fnLooksLikeRow, standIns := [], harness := (true, "0e8940b95920ea98badc75e9e7f82f3333a9b8034b34eab27c716ea097d4e7e3"), looks := true }, kinds := [], alts := [], laidByText := true, laidKinds := [.data, .data, .data, .data, .sentinel, .sentinel, .pinned], laidTests := true, laidLooks := .later }
def FnLooksLikeCardSaid : Prop := Claim7.holds Tryz.pinned (.plain (OpenSpec.ofChange fnLooksLikeSpec)) fnLooksLikeCard

/-- THE TIED CARD OF 'laws.FnDecBack'. -/
def fnDecBackCard : Claim7 := { stood := { row := fnDecBackRow, standIns := [], harness := (true, "0e8940b95920ea98badc75e9e7f82f3333a9b8034b34eab27c716ea097d4e7e3"), looks := true }, kinds := [], alts := [], laidByText := true, laidKinds := [.data, .data, .data, .data, .sentinel, .sentinel, .pinned], laidTests := true, laidLooks := .later }
def FnDecBackCardSaid : Prop := Claim7.holds Tryz.pinned (.plain (OpenSpec.ofChange fnDecBackSpec)) fnDecBackCard

/-- THE TIED CARD OF 'laws.FnDecInts'. -/
def fnDecIntsCard : Claim7 := { stood := { row := fnDecIntsRow, standIns := [], harness := (true, "0e8940b95920ea98badc75e9e7f82f3333a9b8034b34eab27c716ea097d4e7e3"), looks := true }, kinds := [], alts := [], laidByText := true, laidKinds := [.data, .data, .data, .data, .sentinel, .sentinel, .pinned], laidTests := true, laidLooks := .later }
def FnDecIntsCardSaid : Prop := Claim7.holds Tryz.pinned (.plain (OpenSpec.ofChange fnDecIntsSpec)) fnDecIntsCard

/-- THE SECOND FORM's CARD OF 'laws.FnExactPrefix'. -/
def fnExactPrefixUptoCard : Claim7 := { stood := { row := fnExactPrefixUptoRow, standIns := [], harness := (true, "0e8940b95920ea98badc75e9e7f82f3333a9b8034b34eab27c716ea097d4e7e3"), looks := true }, kinds := [], alts := [], laidByText := true, laidKinds := [.data, .data, .data, .data, .sentinel, .sentinel, .pinned], laidTests := true, laidLooks := .later }
def FnExactPrefixUptoCardSaid : Prop := Claim7.holds Tryz.pinned (.plain (OpenSpec.upto fnExactPrefixSpec)) fnExactPrefixUptoCard

/-- THE SECOND FORM's CARD OF 'laws.FnExactLooks'. -/
def fnExactLooksUptoCard : Claim7 := { stood := { row := fnExactLooksUptoRow, standIns := [], harness := (true, "0e8940b95920ea98badc75e9e7f82f3333a9b8034b34eab27c716ea097d4e7e3"), looks := true }, kinds := [], alts := [], laidByText := true, laidKinds := [.data, .data, .data, .data, .sentinel, .sentinel, .pinned], laidTests := true, laidLooks := .later }
def FnExactLooksUptoCardSaid : Prop := Claim7.holds Tryz.pinned (.plain (OpenSpec.upto fnExactLooksSpec)) fnExactLooksUptoCard

/-- THE SECOND FORM's CARD OF 'laws.FnLooksLike'. -/
def fnLooksLikeUptoCard : Claim7 := { stood := { row := fnLooksLikeUptoRow, standIns := [], harness := (true, "0e8940b95920ea98badc75e9e7f82f3333a9b8034b34eab27c716ea097d4e7e3"), looks := true }, kinds := [], alts := [], laidByText := true, laidKinds := [.data, .data, .data, .data, .sentinel, .sentinel, .pinned], laidTests := true, laidLooks := .later }
def FnLooksLikeUptoCardSaid : Prop := Claim7.holds Tryz.pinned (.plain (OpenSpec.upto fnLooksLikeSpec)) fnLooksLikeUptoCard

/-- THE SECOND FORM's CARD OF 'laws.FnDecBack'. -/
def fnDecBackUptoCard : Claim7 := { stood := { row := fnDecBackUptoRow, standIns := [], harness := (true, "0e8940b95920ea98badc75e9e7f82f3333a9b8034b34eab27c716ea097d4e7e3"), looks := true }, kinds := [], alts := [], laidByText := true, laidKinds := [.data, .data, .data, .data, .sentinel, .sentinel, .pinned], laidTests := true, laidLooks := .later }
def FnDecBackUptoCardSaid : Prop := Claim7.holds Tryz.pinned (.plain (OpenSpec.upto fnDecBackSpec)) fnDecBackUptoCard

/-- THE SECOND FORM's CARD OF 'laws.FnDecInts'. -/
def fnDecIntsUptoCard : Claim7 := { stood := { row := fnDecIntsUptoRow, standIns := [], harness := (true, "0e8940b95920ea98badc75e9e7f82f3333a9b8034b34eab27c716ea097d4e7e3"), looks := true }, kinds := [], alts := [], laidByText := true, laidKinds := [.data, .data, .data, .data, .sentinel, .sentinel, .pinned], laidTests := true, laidLooks := .later }
def FnDecIntsUptoCardSaid : Prop := Claim7.holds Tryz.pinned (.plain (OpenSpec.upto fnDecIntsSpec)) fnDecIntsUptoCard
end Rows
end Go.Proofs.YtjjpdoabagnmoaaGreatDoor

/-
  DERIVED. GIVEN WITH THE SEED: THE CARDS: each row of YtbaldkpkloohkaaDoorRows.lean that lists a variable, with what it lists TIED to the program's text (the seventh form; the later family's looks); each row that meets fmt, with fmt's text TOLD by the authors' own Lean function (tested against real Go, not proved from fmt's source: count such statements apart). THE CARD IS WHAT COUNTS. Prove the row's statement (the work); the ties are given (YtbaldkpkloohkaaDoorTie.lean); close each card by the builder's one call (the guide's Derived/Test/ToyasCard.lean, 'card_holds'). Laid BY PROGRAM, IN A SANDBOX (cutbox-door.mjs). By AI agents, Wed Nov 11 2026. No macro, syntax, notation, axiom, sorry.
-/
import Derived.Test.YtbaldkpkloohkaaDoorRows
import GoSem.ClaimSeven
namespace Go.Proofs.YtbaldkpkloohkaaDoor
namespace Rows

/-- THE TIED CARD OF 'laws.FnExactNatAdd'. -/
def fnExactNatAddCard : Claim7 := { stood := { row := fnExactNatAddRow, standIns := [], harness := (true, "ce5150315734bec78ff1e82b4791842b7b73dad79a8fbba0623b682733f4e896"), looks := false }, kinds := [], alts := [], laidByText := true, laidKinds := [.data, .pinned], laidTests := true, laidLooks := .later }
def FnExactNatAddCardSaid : Prop := Claim7.holds Tryd.pinned (.plain (OpenSpec.ofChange fnExactNatAddSpec)) fnExactNatAddCard

/-- THE TIED CARD OF 'laws.FnExactNatMul'. -/
def fnExactNatMulCard : Claim7 := { stood := { row := fnExactNatMulRow, standIns := [], harness := (true, "ce5150315734bec78ff1e82b4791842b7b73dad79a8fbba0623b682733f4e896"), looks := false }, kinds := [], alts := [], laidByText := true, laidKinds := [.data, .pinned], laidTests := true, laidLooks := .later }
def FnExactNatMulCardSaid : Prop := Claim7.holds Tryd.pinned (.plain (OpenSpec.ofChange fnExactNatMulSpec)) fnExactNatMulCard

/-- THE TIED CARD OF 'laws.FnExactNatSub'. -/
def fnExactNatSubCard : Claim7 := { stood := { row := fnExactNatSubRow, standIns := [], harness := (true, "ce5150315734bec78ff1e82b4791842b7b73dad79a8fbba0623b682733f4e896"), looks := false }, kinds := [], alts := [], laidByText := true, laidKinds := [.data, .pinned], laidTests := true, laidLooks := .later }
def FnExactNatSubCardSaid : Prop := Claim7.holds Tryd.pinned (.plain (OpenSpec.ofChange fnExactNatSubSpec)) fnExactNatSubCard

/-- THE TIED CARD OF 'laws.FnExactNatDiv'. -/
def fnExactNatDivCard : Claim7 := { stood := { row := fnExactNatDivRow, standIns := [], harness := (true, "ce5150315734bec78ff1e82b4791842b7b73dad79a8fbba0623b682733f4e896"), looks := false }, kinds := [], alts := [], laidByText := true, laidKinds := [.data, .pinned], laidTests := true, laidLooks := .later }
def FnExactNatDivCardSaid : Prop := Claim7.holds Tryd.pinned (.plain (OpenSpec.ofChange fnExactNatDivSpec)) fnExactNatDivCard

/-- THE TIED CARD OF 'laws.FnExactNatRound'. -/
def fnExactNatRoundCard : Claim7 := { stood := { row := fnExactNatRoundRow, standIns := [], harness := (true, "ce5150315734bec78ff1e82b4791842b7b73dad79a8fbba0623b682733f4e896"), looks := false }, kinds := [], alts := [], laidByText := true, laidKinds := [.data, .pinned], laidTests := true, laidLooks := .later }
def FnExactNatRoundCardSaid : Prop := Claim7.holds Tryd.pinned (.plain (OpenSpec.ofChange fnExactNatRoundSpec)) fnExactNatRoundCard

/-- THE TIED CARD OF 'laws.FnNatDivides'. -/
def fnNatDividesCard : Claim7 := { stood := { row := fnNatDividesRow, standIns := [], harness := (true, "ce5150315734bec78ff1e82b4791842b7b73dad79a8fbba0623b682733f4e896"), looks := false }, kinds := [], alts := [], laidByText := true, laidKinds := [.data, .pinned], laidTests := true, laidLooks := .later }
def FnNatDividesCardSaid : Prop := Claim7.holds Tryd.pinned (.plain (OpenSpec.ofChange fnNatDividesSpec)) fnNatDividesCard

/-- THE TIED CARD OF 'laws.FnNatNearest'. -/
def fnNatNearestCard : Claim7 := { stood := { row := fnNatNearestRow, standIns := [], harness := (true, "ce5150315734bec78ff1e82b4791842b7b73dad79a8fbba0623b682733f4e896"), looks := false }, kinds := [], alts := [], laidByText := true, laidKinds := [.data, .pinned], laidTests := true, laidLooks := .later }
def FnNatNearestCardSaid : Prop := Claim7.holds Tryd.pinned (.plain (OpenSpec.ofChange fnNatNearestSpec)) fnNatNearestCard

/-- THE TIED CARD OF 'laws.FnNatSums'. -/
def fnNatSumsCard : Claim7 := { stood := { row := fnNatSumsRow, standIns := [], harness := (true, "ce5150315734bec78ff1e82b4791842b7b73dad79a8fbba0623b682733f4e896"), looks := false }, kinds := [], alts := [], laidByText := true, laidKinds := [.data, .pinned], laidTests := true, laidLooks := .later }
def FnNatSumsCardSaid : Prop := Claim7.holds Tryd.pinned (.plain (OpenSpec.ofChange fnNatSumsSpec)) fnNatSumsCard

/-- THE SECOND FORM's CARD OF 'laws.FnExactNatAdd'. -/
def fnExactNatAddUptoCard : Claim7 := { stood := { row := fnExactNatAddUptoRow, standIns := [], harness := (true, "ce5150315734bec78ff1e82b4791842b7b73dad79a8fbba0623b682733f4e896"), looks := false }, kinds := [], alts := [], laidByText := true, laidKinds := [.data, .pinned], laidTests := true, laidLooks := .later }
def FnExactNatAddUptoCardSaid : Prop := Claim7.holds Tryd.pinned (.plain (OpenSpec.upto fnExactNatAddSpec)) fnExactNatAddUptoCard

/-- THE SECOND FORM's CARD OF 'laws.FnExactNatMul'. -/
def fnExactNatMulUptoCard : Claim7 := { stood := { row := fnExactNatMulUptoRow, standIns := [], harness := (true, "ce5150315734bec78ff1e82b4791842b7b73dad79a8fbba0623b682733f4e896"), looks := false }, kinds := [], alts := [], laidByText := true, laidKinds := [.data, .pinned], laidTests := true, laidLooks := .later }
def FnExactNatMulUptoCardSaid : Prop := Claim7.holds Tryd.pinned (.plain (OpenSpec.upto fnExactNatMulSpec)) fnExactNatMulUptoCard

/-- THE SECOND FORM's CARD OF 'laws.FnExactNatSub'. -/
def fnExactNatSubUptoCard : Claim7 := { stood := { row := fnExactNatSubUptoRow, standIns := [], harness := (true, "ce5150315734bec78ff1e82b4791842b7b73dad79a8fbba0623b682733f4e896"), looks := false }, kinds := [], alts := [], laidByText := true, laidKinds := [.data, .pinned], laidTests := true, laidLooks := .later }
def FnExactNatSubUptoCardSaid : Prop := Claim7.holds Tryd.pinned (.plain (OpenSpec.upto fnExactNatSubSpec)) fnExactNatSubUptoCard

/-- THE SECOND FORM's CARD OF 'laws.FnExactNatDiv'. -/
def fnExactNatDivUptoCard : Claim7 := { stood := { row := fnExactNatDivUptoRow, standIns := [], harness := (true, "ce5150315734bec78ff1e82b4791842b7b73dad79a8fbba0623b682733f4e896"), looks := false }, kinds := [], alts := [], laidByText := true, laidKinds := [.data, .pinned], laidTests := true, laidLooks := .later }
def FnExactNatDivUptoCardSaid : Prop := Claim7.holds Tryd.pinned (.plain (OpenSpec.upto fnExactNatDivSpec)) fnExactNatDivUptoCard

/-- THE SECOND FORM's CARD OF 'laws.FnExactNatRound'. -/
def fnExactNatRoundUptoCard : Claim7 := { stood := { row := fnExactNatRoundUptoRow, standIns := [], harness := (true, "ce5150315734bec78ff1e82b4791842b7b73dad79a8fbba0623b682733f4e896"), looks := false }, kinds := [], alts := [], laidByText := true, laidKinds := [.data, .pinned], laidTests := true, laidLooks := .later }
def FnExactNatRoundUptoCardSaid : Prop := Claim7.holds Tryd.pinned (.plain (OpenSpec.upto fnExactNatRoundSpec)) fnExactNatRoundUptoCard

/-- THE SECOND FORM's CARD OF 'laws.FnNatDivides'. -/
def fnNatDividesUptoCard : Claim7 := { stood := { row := fnNatDividesUptoRow, standIns := [], harness := (true, "ce5150315734bec78ff1e82b4791842b7b73dad79a8fbba0623b682733f4e896"), looks := false }, kinds := [], alts := [], laidByText := true, laidKinds := [.data, .pinned], laidTests := true, laidLooks := .later }
def FnNatDividesUptoCardSaid : Prop := Claim7.holds Tryd.pinned (.plain (OpenSpec.upto fnNatDividesSpec)) fnNatDividesUptoCard

/-- THE SECOND FORM's CARD OF 'laws.FnNatNearest'. -/
def fnNatNearestUptoCard : Claim7 := { stood := { row := fnNatNearestUptoRow, standIns := [], harness := (true, "ce5150315734bec78ff1e82b4791842b7b73dad79a8fbba0623b682733f4e896"), looks := false }, kinds := [], alts := [], laidByText := true, laidKinds := [.data, .pinned], laidTests := true, laidLooks := .later }
def FnNatNearestUptoCardSaid : Prop := Claim7.holds Tryd.pinned (.plain (OpenSpec.upto fnNatNearestSpec)) fnNatNearestUptoCard

/-- THE SECOND FORM's CARD OF 'laws.FnNatSums'. -/
def fnNatSumsUptoCard : Claim7 := { stood := { row := fnNatSumsUptoRow, standIns := [], harness := (true, "ce5150315734bec78ff1e82b4791842b7b73dad79a8fbba0623b682733f4e896"), looks := false }, kinds := [], alts := [], laidByText := true, laidKinds := [.data, .pinned], laidTests := true, laidLooks := .later }
def FnNatSumsUptoCardSaid : Prop := Claim7.holds Tryd.pinned (.plain (OpenSpec.upto fnNatSumsSpec)) fnNatSumsUptoCard
end Rows
end Go.Proofs.YtbaldkpkloohkaaDoor

/-
  DERIVED. GIVEN WITH THE SEED: THE CARDS: each row of YtjjpdoabagnmoaaDoorRows.lean that lists a variable, with what it lists TIED to the program's text (the seventh form; the later family's looks); each row that meets fmt, with fmt's text TOLD by the authors' own Lean function (tested against real Go, not proved from fmt's source: count such statements apart). THE CARD IS WHAT COUNTS. Prove the row's statement (the work); the ties are given (YtjjpdoabagnmoaaDoorTie.lean); close each card by the builder's one call (the guide's Derived/Test/ToyasCard.lean, 'card_holds'). Laid BY PROGRAM, IN A SANDBOX (cutbox-door.mjs). By AI agents, Wed Nov 11 2026. No macro, syntax, notation, axiom, sorry.
-/
import Derived.Test.YtjjpdoabagnmoaaDoorRows
import GoSem.ClaimSeven
namespace Go.Proofs.YtjjpdoabagnmoaaDoor
namespace Rows

/-- THE TIED CARD OF 'laws.FnExactDecRead'. -/
def fnExactDecReadCard : Claim7 := { stood := { row := fnExactDecReadRow, standIns := [], harness := (true, "4b977ee310a37482653d48cd99233cc646f206d4501b14b39236b6354892297d"), looks := true }, kinds := [], alts := [], laidByText := true, laidKinds := [.data, .data, .data, .data, .sentinel, .sentinel, .pinned], laidTests := true, laidLooks := .later }
def FnExactDecReadCardSaid : Prop := Claim7.holds Tryd.pinned (.plain (OpenSpec.ofChange fnExactDecReadSpec)) fnExactDecReadCard

/-- THE TIED CARD OF 'laws.FnExactPrefixEnd'. -/
def fnExactPrefixEndCard : Claim7 := { stood := { row := fnExactPrefixEndRow, standIns := [], harness := (true, "4b977ee310a37482653d48cd99233cc646f206d4501b14b39236b6354892297d"), looks := true }, kinds := [], alts := [], laidByText := true, laidKinds := [.data, .pinned], laidTests := true, laidLooks := .later }
def FnExactPrefixEndCardSaid : Prop := Claim7.holds Tryd.pinned (.plain (OpenSpec.ofChange fnExactPrefixEndSpec)) fnExactPrefixEndCard

/-- THE TIED CARD OF 'laws.FnDecSums'. -/
def fnDecSumsCard : Claim7 := { stood := { row := fnDecSumsRow, standIns := [], harness := (true, "4b977ee310a37482653d48cd99233cc646f206d4501b14b39236b6354892297d"), looks := true }, kinds := [], alts := [], laidByText := true, laidKinds := [.data, .pinned], laidTests := true, laidLooks := .later }
def FnDecSumsCardSaid : Prop := Claim7.holds Tryd.pinned (.plain (OpenSpec.ofChange fnDecSumsSpec)) fnDecSumsCard

/-- THE TIED CARD OF 'laws.FnDecDivides'. -/
def fnDecDividesCard : Claim7 := { stood := { row := fnDecDividesRow, standIns := [], harness := (true, "4b977ee310a37482653d48cd99233cc646f206d4501b14b39236b6354892297d"), looks := true }, kinds := [], alts := [], laidByText := true, laidKinds := [.data, .pinned], laidTests := true, laidLooks := .later }
def FnDecDividesCardSaid : Prop := Claim7.holds Tryd.pinned (.plain (OpenSpec.ofChange fnDecDividesSpec)) fnDecDividesCard

/-- THE SECOND FORM's CARD OF 'laws.FnExactDecRead'. -/
def fnExactDecReadUptoCard : Claim7 := { stood := { row := fnExactDecReadUptoRow, standIns := [], harness := (true, "4b977ee310a37482653d48cd99233cc646f206d4501b14b39236b6354892297d"), looks := true }, kinds := [], alts := [], laidByText := true, laidKinds := [.data, .data, .data, .data, .sentinel, .sentinel, .pinned], laidTests := true, laidLooks := .later }
def FnExactDecReadUptoCardSaid : Prop := Claim7.holds Tryd.pinned (.plain (OpenSpec.upto fnExactDecReadSpec)) fnExactDecReadUptoCard

/-- THE SECOND FORM's CARD OF 'laws.FnExactPrefixEnd'. -/
def fnExactPrefixEndUptoCard : Claim7 := { stood := { row := fnExactPrefixEndUptoRow, standIns := [], harness := (true, "4b977ee310a37482653d48cd99233cc646f206d4501b14b39236b6354892297d"), looks := true }, kinds := [], alts := [], laidByText := true, laidKinds := [.data, .pinned], laidTests := true, laidLooks := .later }
def FnExactPrefixEndUptoCardSaid : Prop := Claim7.holds Tryd.pinned (.plain (OpenSpec.upto fnExactPrefixEndSpec)) fnExactPrefixEndUptoCard

/-- THE SECOND FORM's CARD OF 'laws.FnDecSums'. -/
def fnDecSumsUptoCard : Claim7 := { stood := { row := fnDecSumsUptoRow, standIns := [], harness := (true, "4b977ee310a37482653d48cd99233cc646f206d4501b14b39236b6354892297d"), looks := true }, kinds := [], alts := [], laidByText := true, laidKinds := [.data, .pinned], laidTests := true, laidLooks := .later }
def FnDecSumsUptoCardSaid : Prop := Claim7.holds Tryd.pinned (.plain (OpenSpec.upto fnDecSumsSpec)) fnDecSumsUptoCard

/-- THE SECOND FORM's CARD OF 'laws.FnDecDivides'. -/
def fnDecDividesUptoCard : Claim7 := { stood := { row := fnDecDividesUptoRow, standIns := [], harness := (true, "4b977ee310a37482653d48cd99233cc646f206d4501b14b39236b6354892297d"), looks := true }, kinds := [], alts := [], laidByText := true, laidKinds := [.data, .pinned], laidTests := true, laidLooks := .later }
def FnDecDividesUptoCardSaid : Prop := Claim7.holds Tryd.pinned (.plain (OpenSpec.upto fnDecDividesSpec)) fnDecDividesUptoCard
end Rows
end Go.Proofs.YtjjpdoabagnmoaaDoor

/-
  NARROWER THAN 'FOR EVERY INPUT', by the rows' own cells (each row's printed sentence says how): FnExactBlanks: laid · FnExactRowsOk: laid · FnExactTsvRead: laid · FnExactCsvRead: laid · FnExactSplitText: laid · FnExactLines: laid.
  DERIVED. THE GIVEN ROWS OF THIS SEAT. 6 by the template 'for every input the law returns true; each argument reads behind the call as it read before'; 0 by the template 'total and deterministic' (their statements: YtnleemcddhpanaaDoorTotals.lean).
  GIVEN WITH THE SEED: the statements are not yours to turn. If you find one false, say at which input.
  Laid BY PROGRAM, IN A SANDBOX (cutbox-rows.mjs): the forced cells as the released guide's own fill.sh prints them over the translation acee68c5da01eb88… (all of the seat's roots in one cut). By AI agents, Wed Nov 11 2026. No macro, syntax, notation, axiom, sorry.
-/
import Derived.Test.YtnleemcddhpanaaDoorChecked
import GoSem.PinnedTables
import GoSem.Claim
import GoSem.ClaimJoined
import GoSem.ClaimMapViews
import Derived.JoinedTies
import Derived.KernelRfl
namespace Go.Proofs.YtnleemcddhpanaaDoor
/- THE CELL 'sum', in the pinned program and in every row, IS THE sha256 OF THE DUMP (.gsa) THAT YtnleemcddhpanaaDoorProg.lean LOADS. Nothing in Lean hashes anything: it is a label: what it is worth is what the hold of that sum in a sandbox is worth. -/
noncomputable def Tryd.pinned : Pinned := { name := "ytnleemcddhpanaadoor", sum := "acee68c5da01eb8802f6a26e012517919faae6567cf399d1bcde73133d9c961a", checked := Tryd.checked }
namespace Rows
def none {H : Type} : Left H := { results := [], args := [] }

/- WHAT THE LISTED PACKAGE-LEVEL VARIABLES READ AS WHEN THE CALL BEGINS. Each datum BY PROGRAM (the guide's laid-datum.mjs) off the statement by which the dump's own 'gosem.cut.vars' lays the variable. In a bare row this is a premise. The card (YtnleemcddhpanaaDoorCards.lean) ties it to the program's text. -/
def laid_unicode_utf8_acceptRanges {H : Type} : DataW H := .agg [.agg [.lit (.int .u8 128), .lit (.int .u8 191)], .agg [.lit (.int .u8 160), .lit (.int .u8 191)], .agg [.lit (.int .u8 128), .lit (.int .u8 159)], .agg [.lit (.int .u8 144), .lit (.int .u8 191)], .agg [.lit (.int .u8 128), .lit (.int .u8 143)], .agg [.lit (.int .u8 0), .lit (.int .u8 0)], .agg [.lit (.int .u8 0), .lit (.int .u8 0)], .agg [.lit (.int .u8 0), .lit (.int .u8 0)], .agg [.lit (.int .u8 0), .lit (.int .u8 0)], .agg [.lit (.int .u8 0), .lit (.int .u8 0)], .agg [.lit (.int .u8 0), .lit (.int .u8 0)], .agg [.lit (.int .u8 0), .lit (.int .u8 0)], .agg [.lit (.int .u8 0), .lit (.int .u8 0)], .agg [.lit (.int .u8 0), .lit (.int .u8 0)], .agg [.lit (.int .u8 0), .lit (.int .u8 0)], .agg [.lit (.int .u8 0), .lit (.int .u8 0)]]
/-- One of Go's own tables, pinned by name: the form's constant. -/
def laid_unicode_utf8_first : DataW Unit := Go.Pinned.utf8First

/-- 'laws.FnExactBlanks': WHATEVER THE INPUT: true; the input reads as it did. -/
def fnExactBlanksSpec : ChangeSpec := { name := "fnExactBlanks", fn := fun _ => fun
  | [d] => { results := [.lit (.bool true)], args := [d] }
  | _ => none }
def fnExactBlanksRow : OpenClaim := { program := "ytnleemcddhpanaadoor", sum := "acee68c5da01eb8802f6a26e012517919faae6567cf399d1bcde73133d9c961a", func := "loop.example/g00417/laws.FnExactBlanks", spec := "fnExactBlanks", inPlace := ["internal/bytealg.IndexByteString"], unfollowed := true, recurses := true, named := ["unicode/utf8.first", "unicode/utf8.acceptRanges"], apart := false, laid := [("unicode/utf8.acceptRanges", laid_unicode_utf8_acceptRanges), ("unicode/utf8.first", laid_unicode_utf8_first)] }
def FnExactBlanksSaid : Prop := fnExactBlanksRow.holds Tryd.pinned (OpenSpec.ofChange fnExactBlanksSpec)

/-- ITS FALSE NEIGHBOUR: 'it returns false'. Refute it at one input. -/
def fnExactBlanksWrong : ChangeSpec := { name := "fnExactBlanks", fn := fun _ => fun
  | [d] => { results := [.lit (.bool false)], args := [d] }
  | _ => none }
def FnExactBlanksWrongFalsely : Prop := fnExactBlanksRow.holds Tryd.pinned (OpenSpec.ofChange fnExactBlanksWrong)

/-- 'laws.FnExactRowsOk': WHATEVER THE INPUT: true; the input reads as it did. -/
def fnExactRowsOkSpec : ChangeSpec := { name := "fnExactRowsOk", fn := fun _ => fun
  | [d] => { results := [.lit (.bool true)], args := [d] }
  | _ => none }
def fnExactRowsOkRow : OpenClaim := { program := "ytnleemcddhpanaadoor", sum := "acee68c5da01eb8802f6a26e012517919faae6567cf399d1bcde73133d9c961a", func := "loop.example/g00417/laws.FnExactRowsOk", spec := "fnExactRowsOk", inPlace := ["internal/bytealg.IndexByteString"], unfollowed := true, recurses := true, named := ["unicode/utf8.first", "unicode/utf8.acceptRanges"], apart := false, laid := [("unicode/utf8.acceptRanges", laid_unicode_utf8_acceptRanges), ("unicode/utf8.first", laid_unicode_utf8_first)] }
def FnExactRowsOkSaid : Prop := fnExactRowsOkRow.holds Tryd.pinned (OpenSpec.ofChange fnExactRowsOkSpec)

/-- ITS FALSE NEIGHBOUR: 'it returns false'. Refute it at one input. -/
def fnExactRowsOkWrong : ChangeSpec := { name := "fnExactRowsOk", fn := fun _ => fun
  | [d] => { results := [.lit (.bool false)], args := [d] }
  | _ => none }
def FnExactRowsOkWrongFalsely : Prop := fnExactRowsOkRow.holds Tryd.pinned (OpenSpec.ofChange fnExactRowsOkWrong)

/-- 'laws.FnExactTsvRead': WHATEVER THE INPUT: true; the input reads as it did. -/
def fnExactTsvReadSpec : ChangeSpec := { name := "fnExactTsvRead", fn := fun _ => fun
  | [d] => { results := [.lit (.bool true)], args := [d] }
  | _ => none }
def fnExactTsvReadRow : OpenClaim := { program := "ytnleemcddhpanaadoor", sum := "acee68c5da01eb8802f6a26e012517919faae6567cf399d1bcde73133d9c961a", func := "loop.example/g00417/laws.FnExactTsvRead", spec := "fnExactTsvRead", inPlace := ["internal/bytealg.IndexByteString"], named := ["unicode/utf8.first", "unicode/utf8.acceptRanges"], apart := false, laid := [("unicode/utf8.acceptRanges", laid_unicode_utf8_acceptRanges), ("unicode/utf8.first", laid_unicode_utf8_first)] }
def FnExactTsvReadSaid : Prop := fnExactTsvReadRow.holds Tryd.pinned (OpenSpec.ofChange fnExactTsvReadSpec)

/-- ITS FALSE NEIGHBOUR: 'it returns false'. Refute it at one input. -/
def fnExactTsvReadWrong : ChangeSpec := { name := "fnExactTsvRead", fn := fun _ => fun
  | [d] => { results := [.lit (.bool false)], args := [d] }
  | _ => none }
def FnExactTsvReadWrongFalsely : Prop := fnExactTsvReadRow.holds Tryd.pinned (OpenSpec.ofChange fnExactTsvReadWrong)

/-- 'laws.FnExactCsvRead': WHATEVER THE INPUT: true; the input reads as it did. -/
def fnExactCsvReadSpec : ChangeSpec := { name := "fnExactCsvRead", fn := fun _ => fun
  | [d] => { results := [.lit (.bool true)], args := [d] }
  | _ => none }
def fnExactCsvReadRow : OpenClaim := { program := "ytnleemcddhpanaadoor", sum := "acee68c5da01eb8802f6a26e012517919faae6567cf399d1bcde73133d9c961a", func := "loop.example/g00417/laws.FnExactCsvRead", spec := "fnExactCsvRead", inPlace := ["internal/bytealg.IndexByteString"], named := ["unicode/utf8.first", "unicode/utf8.acceptRanges"], apart := false, laid := [("unicode/utf8.acceptRanges", laid_unicode_utf8_acceptRanges), ("unicode/utf8.first", laid_unicode_utf8_first)] }
def FnExactCsvReadSaid : Prop := fnExactCsvReadRow.holds Tryd.pinned (OpenSpec.ofChange fnExactCsvReadSpec)

/-- ITS FALSE NEIGHBOUR: 'it returns false'. Refute it at one input. -/
def fnExactCsvReadWrong : ChangeSpec := { name := "fnExactCsvRead", fn := fun _ => fun
  | [d] => { results := [.lit (.bool false)], args := [d] }
  | _ => none }
def FnExactCsvReadWrongFalsely : Prop := fnExactCsvReadRow.holds Tryd.pinned (OpenSpec.ofChange fnExactCsvReadWrong)

/-- 'laws.FnExactSplitText': WHATEVER THE INPUT: true; the input reads as it did. -/
def fnExactSplitTextSpec : ChangeSpec := { name := "fnExactSplitText", fn := fun _ => fun
  | [d1, d2] => { results := [.lit (.bool true)], args := [d1, d2] }
  | _ => none }
def fnExactSplitTextRow : OpenClaim := { program := "ytnleemcddhpanaadoor", sum := "acee68c5da01eb8802f6a26e012517919faae6567cf399d1bcde73133d9c961a", func := "loop.example/g00417/laws.FnExactSplitText", spec := "fnExactSplitText", inPlace := ["internal/bytealg.IndexByteString", "internal/bytealg.CountString", "internal/bytealg.IndexString"], named := ["unicode/utf8.first", "unicode/utf8.acceptRanges", "internal/bytealg.MaxLen"], apart := false, laid := [("unicode/utf8.acceptRanges", laid_unicode_utf8_acceptRanges), ("unicode/utf8.first", laid_unicode_utf8_first)] }
def FnExactSplitTextSaid : Prop := fnExactSplitTextRow.holds Tryd.pinned (OpenSpec.ofChange fnExactSplitTextSpec)

/-- ITS FALSE NEIGHBOUR: 'it returns false'. Refute it at one input. -/
def fnExactSplitTextWrong : ChangeSpec := { name := "fnExactSplitText", fn := fun _ => fun
  | [d1, d2] => { results := [.lit (.bool false)], args := [d1, d2] }
  | _ => none }
def FnExactSplitTextWrongFalsely : Prop := fnExactSplitTextRow.holds Tryd.pinned (OpenSpec.ofChange fnExactSplitTextWrong)

/-- 'laws.FnExactLines': WHATEVER THE INPUT: true; the input reads as it did. -/
def fnExactLinesSpec : ChangeSpec := { name := "fnExactLines", fn := fun _ => fun
  | [d1, d2] => { results := [.lit (.bool true)], args := [d1, d2] }
  | _ => none }
def fnExactLinesRow : OpenClaim := { program := "ytnleemcddhpanaadoor", sum := "acee68c5da01eb8802f6a26e012517919faae6567cf399d1bcde73133d9c961a", func := "loop.example/g00417/laws.FnExactLines", spec := "fnExactLines", inPlace := ["internal/bytealg.IndexByteString", "internal/bytealg.CountString", "internal/bytealg.IndexString"], named := ["unicode/utf8.first", "unicode/utf8.acceptRanges", "internal/bytealg.MaxLen"], apart := false, laid := [("unicode/utf8.acceptRanges", laid_unicode_utf8_acceptRanges), ("unicode/utf8.first", laid_unicode_utf8_first)] }
def FnExactLinesSaid : Prop := fnExactLinesRow.holds Tryd.pinned (OpenSpec.ofChange fnExactLinesSpec)

/-- ITS FALSE NEIGHBOUR: 'it returns false'. Refute it at one input. -/
def fnExactLinesWrong : ChangeSpec := { name := "fnExactLines", fn := fun _ => fun
  | [d1, d2] => { results := [.lit (.bool false)], args := [d1, d2] }
  | _ => none }
def FnExactLinesWrongFalsely : Prop := fnExactLinesRow.holds Tryd.pinned (OpenSpec.ofChange fnExactLinesWrong)

/- THE SECOND FORM. 'bulk': how many values and letters a reading holds, each counted each time it is reached (what is shared counts as often as it is met; a slice's spare places count too). A statement '..UptoSaid' is the law's where the arguments, and the package variables that the reading takes, are together of bulk at most 1048576: NARROWER than '..Said'. Prove '..Said' where nothing that the law and all that it calls make is longer than what came in: it says more and counts as full. Else prove '..UptoSaid'. A law counts once. -/
mutual
def uptoBulk {H : Type} : DataW H → Nat
  | .lit (.string bytes) => bytes.length + 1
  | .lit _ => 1
  | .nil => 1
  | .ptr d => uptoBulk d + 1
  | .slice elems spare => uptoBulkAll elems + uptoBulkAll spare + 1
  | .agg parts => uptoBulkAll parts + 1
  | .iface _ d => uptoBulk d + 1
  | .map entries => uptoBulkEntries entries + 1
  | .held _ => 1
def uptoBulkAll {H : Type} : List (DataW H) → Nat
  | [] => 0
  | d :: r => uptoBulk d + uptoBulkAll r
def uptoBulkEntries {H : Type} : List (Lit × DataW H) → Nat
  | [] => 0
  | x :: r => uptoBulkEntry x + uptoBulkEntries r
def uptoBulkEntry {H : Type} : Lit × DataW H → Nat
  | (.string bytes, d) => bytes.length + uptoBulk d + 1
  | (_, d) => uptoBulk d + 1
 end
def uptoSmall : (H : Type) → List (DataW H) → Bool := fun _ ds => decide (uptoBulkAll ds ≤ 1048576)
def OpenSpec.upto (s : _root_.Go.ChangeSpec) : _root_.Go.OpenSpec := { _root_.Go.OpenSpec.ofChange s with cond := some uptoSmall }

/-- 'laws.FnExactBlanks', WHERE WHAT IT READS IS OF BULK AT MOST 1048576: true; the input reads as it did. -/
def fnExactBlanksUptoRow : OpenClaim := { program := "ytnleemcddhpanaadoor", sum := "acee68c5da01eb8802f6a26e012517919faae6567cf399d1bcde73133d9c961a", func := "loop.example/g00417/laws.FnExactBlanks", spec := "fnExactBlanks", inPlace := ["internal/bytealg.IndexByteString"], unfollowed := true, recurses := true, named := ["unicode/utf8.first", "unicode/utf8.acceptRanges"], apart := false, laid := [("unicode/utf8.acceptRanges", laid_unicode_utf8_acceptRanges), ("unicode/utf8.first", laid_unicode_utf8_first)], narrowed := true }
def FnExactBlanksUptoSaid : Prop := fnExactBlanksUptoRow.holds Tryd.pinned (OpenSpec.upto fnExactBlanksSpec)

/-- 'laws.FnExactRowsOk', WHERE WHAT IT READS IS OF BULK AT MOST 1048576: true; the input reads as it did. -/
def fnExactRowsOkUptoRow : OpenClaim := { program := "ytnleemcddhpanaadoor", sum := "acee68c5da01eb8802f6a26e012517919faae6567cf399d1bcde73133d9c961a", func := "loop.example/g00417/laws.FnExactRowsOk", spec := "fnExactRowsOk", inPlace := ["internal/bytealg.IndexByteString"], unfollowed := true, recurses := true, named := ["unicode/utf8.first", "unicode/utf8.acceptRanges"], apart := false, laid := [("unicode/utf8.acceptRanges", laid_unicode_utf8_acceptRanges), ("unicode/utf8.first", laid_unicode_utf8_first)], narrowed := true }
def FnExactRowsOkUptoSaid : Prop := fnExactRowsOkUptoRow.holds Tryd.pinned (OpenSpec.upto fnExactRowsOkSpec)

/-- 'laws.FnExactTsvRead', WHERE WHAT IT READS IS OF BULK AT MOST 1048576: true; the input reads as it did. -/
def fnExactTsvReadUptoRow : OpenClaim := { program := "ytnleemcddhpanaadoor", sum := "acee68c5da01eb8802f6a26e012517919faae6567cf399d1bcde73133d9c961a", func := "loop.example/g00417/laws.FnExactTsvRead", spec := "fnExactTsvRead", inPlace := ["internal/bytealg.IndexByteString"], named := ["unicode/utf8.first", "unicode/utf8.acceptRanges"], apart := false, laid := [("unicode/utf8.acceptRanges", laid_unicode_utf8_acceptRanges), ("unicode/utf8.first", laid_unicode_utf8_first)], narrowed := true }
def FnExactTsvReadUptoSaid : Prop := fnExactTsvReadUptoRow.holds Tryd.pinned (OpenSpec.upto fnExactTsvReadSpec)

/-- 'laws.FnExactCsvRead', WHERE WHAT IT READS IS OF BULK AT MOST 1048576: true; the input reads as it did. -/
def fnExactCsvReadUptoRow : OpenClaim := { program := "ytnleemcddhpanaadoor", sum := "acee68c5da01eb8802f6a26e012517919faae6567cf399d1bcde73133d9c961a", func := "loop.example/g00417/laws.FnExactCsvRead", spec := "fnExactCsvRead", inPlace := ["internal/bytealg.IndexByteString"], named := ["unicode/utf8.first", "unicode/utf8.acceptRanges"], apart := false, laid := [("unicode/utf8.acceptRanges", laid_unicode_utf8_acceptRanges), ("unicode/utf8.first", laid_unicode_utf8_first)], narrowed := true }
def FnExactCsvReadUptoSaid : Prop := fnExactCsvReadUptoRow.holds Tryd.pinned (OpenSpec.upto fnExactCsvReadSpec)

/-- 'laws.FnExactSplitText', WHERE WHAT IT READS IS OF BULK AT MOST 1048576: true; the input reads as it did. -/
def fnExactSplitTextUptoRow : OpenClaim := { program := "ytnleemcddhpanaadoor", sum := "acee68c5da01eb8802f6a26e012517919faae6567cf399d1bcde73133d9c961a", func := "loop.example/g00417/laws.FnExactSplitText", spec := "fnExactSplitText", inPlace := ["internal/bytealg.IndexByteString", "internal/bytealg.CountString", "internal/bytealg.IndexString"], named := ["unicode/utf8.first", "unicode/utf8.acceptRanges", "internal/bytealg.MaxLen"], apart := false, laid := [("unicode/utf8.acceptRanges", laid_unicode_utf8_acceptRanges), ("unicode/utf8.first", laid_unicode_utf8_first)], narrowed := true }
def FnExactSplitTextUptoSaid : Prop := fnExactSplitTextUptoRow.holds Tryd.pinned (OpenSpec.upto fnExactSplitTextSpec)

/-- 'laws.FnExactLines', WHERE WHAT IT READS IS OF BULK AT MOST 1048576: true; the input reads as it did. -/
def fnExactLinesUptoRow : OpenClaim := { program := "ytnleemcddhpanaadoor", sum := "acee68c5da01eb8802f6a26e012517919faae6567cf399d1bcde73133d9c961a", func := "loop.example/g00417/laws.FnExactLines", spec := "fnExactLines", inPlace := ["internal/bytealg.IndexByteString", "internal/bytealg.CountString", "internal/bytealg.IndexString"], named := ["unicode/utf8.first", "unicode/utf8.acceptRanges", "internal/bytealg.MaxLen"], apart := false, laid := [("unicode/utf8.acceptRanges", laid_unicode_utf8_acceptRanges), ("unicode/utf8.first", laid_unicode_utf8_first)], narrowed := true }
def FnExactLinesUptoSaid : Prop := fnExactLinesUptoRow.holds Tryd.pinned (OpenSpec.upto fnExactLinesSpec)

end Rows
end Go.Proofs.YtnleemcddhpanaaDoor

/-
  NARROWER THAN 'FOR EVERY INPUT', by the rows' own cells (each row's printed sentence says how): FnExactNatAdd: laid · FnExactNatMul: laid · FnExactNatSub: laid · FnExactNatDiv: laid · FnExactNatRound: laid · FnNatDivides: laid · FnNatNearest: laid · FnNatSums: laid.
  DERIVED. THE GIVEN ROWS OF THIS SEAT. 8 by the template 'for every input the law returns true; each argument reads behind the call as it read before'; 0 by the template 'total and deterministic' (their statements: YtbaldkpkloohkaaDoorTotals.lean).
  GIVEN WITH THE SEED: the statements are not yours to turn. If you find one false, say at which input.
  Laid BY PROGRAM, IN A SANDBOX (cutbox-rows.mjs): the forced cells as the released guide's own fill.sh prints them over the translation da512e1f8320f2ed… (all of the seat's roots in one cut). By AI agents, Wed Nov 11 2026. No macro, syntax, notation, axiom, sorry.
-/
import Derived.Test.YtbaldkpkloohkaaDoorChecked
import GoSem.PinnedTables
import GoSem.Claim
import GoSem.ClaimJoined
import GoSem.ClaimMapViews
import Derived.JoinedTies
import Derived.KernelRfl
namespace Go.Proofs.YtbaldkpkloohkaaDoor
/- THE CELL 'sum', in the pinned program and in every row, IS THE sha256 OF THE DUMP (.gsa) THAT YtbaldkpkloohkaaDoorProg.lean LOADS. Nothing in Lean hashes anything: it is a label: what it is worth is what the hold of that sum in a sandbox is worth. -/
noncomputable def Tryd.pinned : Pinned := { name := "ytbaldkpkloohkaadoor", sum := "da512e1f8320f2ed434f60bc793d254704f91d2b1fcafe7425dd9ee912bd8887", checked := Tryd.checked }
namespace Rows
def none {H : Type} : Left H := { results := [], args := [] }

/- WHAT THE LISTED PACKAGE-LEVEL VARIABLES READ AS WHEN THE CALL BEGINS. Each datum BY PROGRAM (the guide's laid-datum.mjs) off the statement by which the dump's own 'gosem.cut.vars' lays the variable. In a bare row this is a premise. The card (YtbaldkpkloohkaaDoorCards.lean) ties it to the program's text. -/
def laid_unicode_utf8_acceptRanges {H : Type} : DataW H := .agg [.agg [.lit (.int .u8 128), .lit (.int .u8 191)], .agg [.lit (.int .u8 160), .lit (.int .u8 191)], .agg [.lit (.int .u8 128), .lit (.int .u8 159)], .agg [.lit (.int .u8 144), .lit (.int .u8 191)], .agg [.lit (.int .u8 128), .lit (.int .u8 143)], .agg [.lit (.int .u8 0), .lit (.int .u8 0)], .agg [.lit (.int .u8 0), .lit (.int .u8 0)], .agg [.lit (.int .u8 0), .lit (.int .u8 0)], .agg [.lit (.int .u8 0), .lit (.int .u8 0)], .agg [.lit (.int .u8 0), .lit (.int .u8 0)], .agg [.lit (.int .u8 0), .lit (.int .u8 0)], .agg [.lit (.int .u8 0), .lit (.int .u8 0)], .agg [.lit (.int .u8 0), .lit (.int .u8 0)], .agg [.lit (.int .u8 0), .lit (.int .u8 0)], .agg [.lit (.int .u8 0), .lit (.int .u8 0)], .agg [.lit (.int .u8 0), .lit (.int .u8 0)]]
/-- One of Go's own tables, pinned by name: the form's constant. -/
def laid_unicode_utf8_first : DataW Unit := Go.Pinned.utf8First

/-- 'laws.FnExactNatAdd': WHATEVER THE INPUT: true; the input reads as it did. -/
def fnExactNatAddSpec : ChangeSpec := { name := "fnExactNatAdd", fn := fun _ => fun
  | [d1, d2] => { results := [.lit (.bool true)], args := [d1, d2] }
  | _ => none }
def fnExactNatAddRow : OpenClaim := { program := "ytbaldkpkloohkaadoor", sum := "da512e1f8320f2ed434f60bc793d254704f91d2b1fcafe7425dd9ee912bd8887", func := "loop.example/g00417/laws.FnExactNatAdd", spec := "fnExactNatAdd", inPlace := ["internal/bytealg.IndexByteString", "internal/bytealg.IndexString"], named := ["unicode/utf8.first", "unicode/utf8.acceptRanges", "internal/bytealg.MaxLen"], apart := false, laid := [("unicode/utf8.acceptRanges", laid_unicode_utf8_acceptRanges), ("unicode/utf8.first", laid_unicode_utf8_first)] }
def FnExactNatAddSaid : Prop := fnExactNatAddRow.holds Tryd.pinned (OpenSpec.ofChange fnExactNatAddSpec)

/-- ITS FALSE NEIGHBOUR: 'it returns false'. Refute it at one input. -/
def fnExactNatAddWrong : ChangeSpec := { name := "fnExactNatAdd", fn := fun _ => fun
  | [d1, d2] => { results := [.lit (.bool false)], args := [d1, d2] }
  | _ => none }
def FnExactNatAddWrongFalsely : Prop := fnExactNatAddRow.holds Tryd.pinned (OpenSpec.ofChange fnExactNatAddWrong)

/-- 'laws.FnExactNatMul': WHATEVER THE INPUT: true; the input reads as it did. -/
def fnExactNatMulSpec : ChangeSpec := { name := "fnExactNatMul", fn := fun _ => fun
  | [d1, d2] => { results := [.lit (.bool true)], args := [d1, d2] }
  | _ => none }
def fnExactNatMulRow : OpenClaim := { program := "ytbaldkpkloohkaadoor", sum := "da512e1f8320f2ed434f60bc793d254704f91d2b1fcafe7425dd9ee912bd8887", func := "loop.example/g00417/laws.FnExactNatMul", spec := "fnExactNatMul", inPlace := ["internal/bytealg.IndexByteString", "internal/bytealg.IndexString"], named := ["unicode/utf8.first", "unicode/utf8.acceptRanges", "internal/bytealg.MaxLen"], apart := false, laid := [("unicode/utf8.acceptRanges", laid_unicode_utf8_acceptRanges), ("unicode/utf8.first", laid_unicode_utf8_first)] }
def FnExactNatMulSaid : Prop := fnExactNatMulRow.holds Tryd.pinned (OpenSpec.ofChange fnExactNatMulSpec)

/-- ITS FALSE NEIGHBOUR: 'it returns false'. Refute it at one input. -/
def fnExactNatMulWrong : ChangeSpec := { name := "fnExactNatMul", fn := fun _ => fun
  | [d1, d2] => { results := [.lit (.bool false)], args := [d1, d2] }
  | _ => none }
def FnExactNatMulWrongFalsely : Prop := fnExactNatMulRow.holds Tryd.pinned (OpenSpec.ofChange fnExactNatMulWrong)

/-- 'laws.FnExactNatSub': WHATEVER THE INPUT: true; the input reads as it did. -/
def fnExactNatSubSpec : ChangeSpec := { name := "fnExactNatSub", fn := fun _ => fun
  | [d1, d2] => { results := [.lit (.bool true)], args := [d1, d2] }
  | _ => none }
def fnExactNatSubRow : OpenClaim := { program := "ytbaldkpkloohkaadoor", sum := "da512e1f8320f2ed434f60bc793d254704f91d2b1fcafe7425dd9ee912bd8887", func := "loop.example/g00417/laws.FnExactNatSub", spec := "fnExactNatSub", inPlace := ["internal/bytealg.abigen_runtime_cmpstring", "internal/bytealg.IndexByteString", "internal/bytealg.IndexString"], named := ["unicode/utf8.first", "unicode/utf8.acceptRanges", "internal/bytealg.MaxLen"], apart := false, laid := [("unicode/utf8.acceptRanges", laid_unicode_utf8_acceptRanges), ("unicode/utf8.first", laid_unicode_utf8_first)] }
def FnExactNatSubSaid : Prop := fnExactNatSubRow.holds Tryd.pinned (OpenSpec.ofChange fnExactNatSubSpec)

/-- ITS FALSE NEIGHBOUR: 'it returns false'. Refute it at one input. -/
def fnExactNatSubWrong : ChangeSpec := { name := "fnExactNatSub", fn := fun _ => fun
  | [d1, d2] => { results := [.lit (.bool false)], args := [d1, d2] }
  | _ => none }
def FnExactNatSubWrongFalsely : Prop := fnExactNatSubRow.holds Tryd.pinned (OpenSpec.ofChange fnExactNatSubWrong)

/-- 'laws.FnExactNatDiv': WHATEVER THE INPUT: true; the input reads as it did. -/
def fnExactNatDivSpec : ChangeSpec := { name := "fnExactNatDiv", fn := fun _ => fun
  | [d1, d2] => { results := [.lit (.bool true)], args := [d1, d2] }
  | _ => none }
def fnExactNatDivRow : OpenClaim := { program := "ytbaldkpkloohkaadoor", sum := "da512e1f8320f2ed434f60bc793d254704f91d2b1fcafe7425dd9ee912bd8887", func := "loop.example/g00417/laws.FnExactNatDiv", spec := "fnExactNatDiv", inPlace := ["internal/bytealg.IndexByteString", "internal/bytealg.IndexString", "internal/bytealg.abigen_runtime_cmpstring"], named := ["unicode/utf8.first", "unicode/utf8.acceptRanges", "internal/bytealg.MaxLen"], apart := false, laid := [("unicode/utf8.acceptRanges", laid_unicode_utf8_acceptRanges), ("unicode/utf8.first", laid_unicode_utf8_first)] }
def FnExactNatDivSaid : Prop := fnExactNatDivRow.holds Tryd.pinned (OpenSpec.ofChange fnExactNatDivSpec)

/-- ITS FALSE NEIGHBOUR: 'it returns false'. Refute it at one input. -/
def fnExactNatDivWrong : ChangeSpec := { name := "fnExactNatDiv", fn := fun _ => fun
  | [d1, d2] => { results := [.lit (.bool false)], args := [d1, d2] }
  | _ => none }
def FnExactNatDivWrongFalsely : Prop := fnExactNatDivRow.holds Tryd.pinned (OpenSpec.ofChange fnExactNatDivWrong)

/-- 'laws.FnExactNatRound': WHATEVER THE INPUT: true; the input reads as it did. -/
def fnExactNatRoundSpec : ChangeSpec := { name := "fnExactNatRound", fn := fun _ => fun
  | [d1, d2] => { results := [.lit (.bool true)], args := [d1, d2] }
  | _ => none }
def fnExactNatRoundRow : OpenClaim := { program := "ytbaldkpkloohkaadoor", sum := "da512e1f8320f2ed434f60bc793d254704f91d2b1fcafe7425dd9ee912bd8887", func := "loop.example/g00417/laws.FnExactNatRound", spec := "fnExactNatRound", inPlace := ["internal/bytealg.IndexByteString", "internal/bytealg.IndexString", "internal/abi.NoEscape", "internal/bytealg.MakeNoZero"], named := ["unicode/utf8.first", "unicode/utf8.acceptRanges", "internal/bytealg.MaxLen"], apart := false, laid := [("unicode/utf8.acceptRanges", laid_unicode_utf8_acceptRanges), ("unicode/utf8.first", laid_unicode_utf8_first)] }
def FnExactNatRoundSaid : Prop := fnExactNatRoundRow.holds Tryd.pinned (OpenSpec.ofChange fnExactNatRoundSpec)

/-- ITS FALSE NEIGHBOUR: 'it returns false'. Refute it at one input. -/
def fnExactNatRoundWrong : ChangeSpec := { name := "fnExactNatRound", fn := fun _ => fun
  | [d1, d2] => { results := [.lit (.bool false)], args := [d1, d2] }
  | _ => none }
def FnExactNatRoundWrongFalsely : Prop := fnExactNatRoundRow.holds Tryd.pinned (OpenSpec.ofChange fnExactNatRoundWrong)

/-- 'laws.FnNatDivides': WHATEVER THE INPUT: true; the input reads as it did. -/
def fnNatDividesSpec : ChangeSpec := { name := "fnNatDivides", fn := fun _ => fun
  | [d] => { results := [.lit (.bool true)], args := [d] }
  | _ => none }
def fnNatDividesRow : OpenClaim := { program := "ytbaldkpkloohkaadoor", sum := "da512e1f8320f2ed434f60bc793d254704f91d2b1fcafe7425dd9ee912bd8887", func := "loop.example/g00417/laws.FnNatDivides", spec := "fnNatDivides", inPlace := ["internal/bytealg.IndexByteString", "internal/bytealg.IndexString", "internal/bytealg.abigen_runtime_cmpstring"], named := ["unicode/utf8.first", "unicode/utf8.acceptRanges", "internal/bytealg.MaxLen"], apart := false, laid := [("unicode/utf8.acceptRanges", laid_unicode_utf8_acceptRanges), ("unicode/utf8.first", laid_unicode_utf8_first)] }
def FnNatDividesSaid : Prop := fnNatDividesRow.holds Tryd.pinned (OpenSpec.ofChange fnNatDividesSpec)

/-- ITS FALSE NEIGHBOUR: 'it returns false'. Refute it at one input. -/
def fnNatDividesWrong : ChangeSpec := { name := "fnNatDivides", fn := fun _ => fun
  | [d] => { results := [.lit (.bool false)], args := [d] }
  | _ => none }
def FnNatDividesWrongFalsely : Prop := fnNatDividesRow.holds Tryd.pinned (OpenSpec.ofChange fnNatDividesWrong)

/-- 'laws.FnNatNearest': WHATEVER THE INPUT: true; the input reads as it did. -/
def fnNatNearestSpec : ChangeSpec := { name := "fnNatNearest", fn := fun _ => fun
  | [d] => { results := [.lit (.bool true)], args := [d] }
  | _ => none }
def fnNatNearestRow : OpenClaim := { program := "ytbaldkpkloohkaadoor", sum := "da512e1f8320f2ed434f60bc793d254704f91d2b1fcafe7425dd9ee912bd8887", func := "loop.example/g00417/laws.FnNatNearest", spec := "fnNatNearest", inPlace := ["internal/bytealg.IndexByteString", "internal/bytealg.IndexString", "internal/abi.NoEscape", "internal/bytealg.MakeNoZero"], named := ["unicode/utf8.first", "unicode/utf8.acceptRanges", "internal/bytealg.MaxLen"], apart := false, laid := [("unicode/utf8.acceptRanges", laid_unicode_utf8_acceptRanges), ("unicode/utf8.first", laid_unicode_utf8_first)] }
def FnNatNearestSaid : Prop := fnNatNearestRow.holds Tryd.pinned (OpenSpec.ofChange fnNatNearestSpec)

/-- ITS FALSE NEIGHBOUR: 'it returns false'. Refute it at one input. -/
def fnNatNearestWrong : ChangeSpec := { name := "fnNatNearest", fn := fun _ => fun
  | [d] => { results := [.lit (.bool false)], args := [d] }
  | _ => none }
def FnNatNearestWrongFalsely : Prop := fnNatNearestRow.holds Tryd.pinned (OpenSpec.ofChange fnNatNearestWrong)

/-- 'laws.FnNatSums': WHATEVER THE INPUT: true; the input reads as it did. -/
def fnNatSumsSpec : ChangeSpec := { name := "fnNatSums", fn := fun _ => fun
  | [d] => { results := [.lit (.bool true)], args := [d] }
  | _ => none }
def fnNatSumsRow : OpenClaim := { program := "ytbaldkpkloohkaadoor", sum := "da512e1f8320f2ed434f60bc793d254704f91d2b1fcafe7425dd9ee912bd8887", func := "loop.example/g00417/laws.FnNatSums", spec := "fnNatSums", inPlace := ["internal/bytealg.IndexByteString", "internal/bytealg.IndexString", "internal/bytealg.abigen_runtime_cmpstring", "internal/abi.NoEscape", "internal/bytealg.MakeNoZero"], named := ["unicode/utf8.first", "unicode/utf8.acceptRanges", "internal/bytealg.MaxLen"], apart := false, laid := [("unicode/utf8.acceptRanges", laid_unicode_utf8_acceptRanges), ("unicode/utf8.first", laid_unicode_utf8_first)] }
def FnNatSumsSaid : Prop := fnNatSumsRow.holds Tryd.pinned (OpenSpec.ofChange fnNatSumsSpec)

/-- ITS FALSE NEIGHBOUR: 'it returns false'. Refute it at one input. -/
def fnNatSumsWrong : ChangeSpec := { name := "fnNatSums", fn := fun _ => fun
  | [d] => { results := [.lit (.bool false)], args := [d] }
  | _ => none }
def FnNatSumsWrongFalsely : Prop := fnNatSumsRow.holds Tryd.pinned (OpenSpec.ofChange fnNatSumsWrong)

/- THE SECOND FORM. 'bulk': how many values and letters a reading holds, each counted each time it is reached (what is shared counts as often as it is met; a slice's spare places count too). A statement '..UptoSaid' is the law's where the arguments, and the package variables that the reading takes, are together of bulk at most 1048576: NARROWER than '..Said'. Prove '..Said' where nothing that the law and all that it calls make is longer than what came in: it says more and counts as full. Else prove '..UptoSaid'. A law counts once. -/
mutual
def uptoBulk {H : Type} : DataW H → Nat
  | .lit (.string bytes) => bytes.length + 1
  | .lit _ => 1
  | .nil => 1
  | .ptr d => uptoBulk d + 1
  | .slice elems spare => uptoBulkAll elems + uptoBulkAll spare + 1
  | .agg parts => uptoBulkAll parts + 1
  | .iface _ d => uptoBulk d + 1
  | .map entries => uptoBulkEntries entries + 1
  | .held _ => 1
def uptoBulkAll {H : Type} : List (DataW H) → Nat
  | [] => 0
  | d :: r => uptoBulk d + uptoBulkAll r
def uptoBulkEntries {H : Type} : List (Lit × DataW H) → Nat
  | [] => 0
  | x :: r => uptoBulkEntry x + uptoBulkEntries r
def uptoBulkEntry {H : Type} : Lit × DataW H → Nat
  | (.string bytes, d) => bytes.length + uptoBulk d + 1
  | (_, d) => uptoBulk d + 1
 end
def uptoSmall : (H : Type) → List (DataW H) → Bool := fun _ ds => decide (uptoBulkAll ds ≤ 1048576)
def OpenSpec.upto (s : _root_.Go.ChangeSpec) : _root_.Go.OpenSpec := { _root_.Go.OpenSpec.ofChange s with cond := some uptoSmall }

/-- 'laws.FnExactNatAdd', WHERE WHAT IT READS IS OF BULK AT MOST 1048576: true; the input reads as it did. -/
def fnExactNatAddUptoRow : OpenClaim := { program := "ytbaldkpkloohkaadoor", sum := "da512e1f8320f2ed434f60bc793d254704f91d2b1fcafe7425dd9ee912bd8887", func := "loop.example/g00417/laws.FnExactNatAdd", spec := "fnExactNatAdd", inPlace := ["internal/bytealg.IndexByteString", "internal/bytealg.IndexString"], named := ["unicode/utf8.first", "unicode/utf8.acceptRanges", "internal/bytealg.MaxLen"], apart := false, laid := [("unicode/utf8.acceptRanges", laid_unicode_utf8_acceptRanges), ("unicode/utf8.first", laid_unicode_utf8_first)], narrowed := true }
def FnExactNatAddUptoSaid : Prop := fnExactNatAddUptoRow.holds Tryd.pinned (OpenSpec.upto fnExactNatAddSpec)

/-- 'laws.FnExactNatMul', WHERE WHAT IT READS IS OF BULK AT MOST 1048576: true; the input reads as it did. -/
def fnExactNatMulUptoRow : OpenClaim := { program := "ytbaldkpkloohkaadoor", sum := "da512e1f8320f2ed434f60bc793d254704f91d2b1fcafe7425dd9ee912bd8887", func := "loop.example/g00417/laws.FnExactNatMul", spec := "fnExactNatMul", inPlace := ["internal/bytealg.IndexByteString", "internal/bytealg.IndexString"], named := ["unicode/utf8.first", "unicode/utf8.acceptRanges", "internal/bytealg.MaxLen"], apart := false, laid := [("unicode/utf8.acceptRanges", laid_unicode_utf8_acceptRanges), ("unicode/utf8.first", laid_unicode_utf8_first)], narrowed := true }
def FnExactNatMulUptoSaid : Prop := fnExactNatMulUptoRow.holds Tryd.pinned (OpenSpec.upto fnExactNatMulSpec)

/-- 'laws.FnExactNatSub', WHERE WHAT IT READS IS OF BULK AT MOST 1048576: true; the input reads as it did. -/
def fnExactNatSubUptoRow : OpenClaim := { program := "ytbaldkpkloohkaadoor", sum := "da512e1f8320f2ed434f60bc793d254704f91d2b1fcafe7425dd9ee912bd8887", func := "loop.example/g00417/laws.FnExactNatSub", spec := "fnExactNatSub", inPlace := ["internal/bytealg.abigen_runtime_cmpstring", "internal/bytealg.IndexByteString", "internal/bytealg.IndexString"], named := ["unicode/utf8.first", "unicode/utf8.acceptRanges", "internal/bytealg.MaxLen"], apart := false, laid := [("unicode/utf8.acceptRanges", laid_unicode_utf8_acceptRanges), ("unicode/utf8.first", laid_unicode_utf8_first)], narrowed := true }
def FnExactNatSubUptoSaid : Prop := fnExactNatSubUptoRow.holds Tryd.pinned (OpenSpec.upto fnExactNatSubSpec)

/-- 'laws.FnExactNatDiv', WHERE WHAT IT READS IS OF BULK AT MOST 1048576: true; the input reads as it did. -/
def fnExactNatDivUptoRow : OpenClaim := { program := "ytbaldkpkloohkaadoor", sum := "da512e1f8320f2ed434f60bc793d254704f91d2b1fcafe7425dd9ee912bd8887", func := "loop.example/g00417/laws.FnExactNatDiv", spec := "fnExactNatDiv", inPlace := ["internal/bytealg.IndexByteString", "internal/bytealg.IndexString", "internal/bytealg.abigen_runtime_cmpstring"], named := ["unicode/utf8.first", "unicode/utf8.acceptRanges", "internal/bytealg.MaxLen"], apart := false, laid := [("unicode/utf8.acceptRanges", laid_unicode_utf8_acceptRanges), ("unicode/utf8.first", laid_unicode_utf8_first)], narrowed := true }
def FnExactNatDivUptoSaid : Prop := fnExactNatDivUptoRow.holds Tryd.pinned (OpenSpec.upto fnExactNatDivSpec)

/-- 'laws.FnExactNatRound', WHERE WHAT IT READS IS OF BULK AT MOST 1048576: true; the input reads as it did. -/
def fnExactNatRoundUptoRow : OpenClaim := { program := "ytbaldkpkloohkaadoor", sum := "da512e1f8320f2ed434f60bc793d254704f91d2b1fcafe7425dd9ee912bd8887", func := "loop.example/g00417/laws.FnExactNatRound", spec := "fnExactNatRound", inPlace := ["internal/bytealg.IndexByteString", "internal/bytealg.IndexString", "internal/abi.NoEscape", "internal/bytealg.MakeNoZero"], named := ["unicode/utf8.first", "unicode/utf8.acceptRanges", "internal/bytealg.MaxLen"], apart := false, laid := [("unicode/utf8.acceptRanges", laid_unicode_utf8_acceptRanges), ("unicode/utf8.first", laid_unicode_utf8_first)], narrowed := true }
def FnExactNatRoundUptoSaid : Prop := fnExactNatRoundUptoRow.holds Tryd.pinned (OpenSpec.upto fnExactNatRoundSpec)

/-- 'laws.FnNatDivides', WHERE WHAT IT READS IS OF BULK AT MOST 1048576: true; the input reads as it did. -/
def fnNatDividesUptoRow : OpenClaim := { program := "ytbaldkpkloohkaadoor", sum := "da512e1f8320f2ed434f60bc793d254704f91d2b1fcafe7425dd9ee912bd8887", func := "loop.example/g00417/laws.FnNatDivides", spec := "fnNatDivides", inPlace := ["internal/bytealg.IndexByteString", "internal/bytealg.IndexString", "internal/bytealg.abigen_runtime_cmpstring"], named := ["unicode/utf8.first", "unicode/utf8.acceptRanges", "internal/bytealg.MaxLen"], apart := false, laid := [("unicode/utf8.acceptRanges", laid_unicode_utf8_acceptRanges), ("unicode/utf8.first", laid_unicode_utf8_first)], narrowed := true }
def FnNatDividesUptoSaid : Prop := fnNatDividesUptoRow.holds Tryd.pinned (OpenSpec.upto fnNatDividesSpec)

/-- 'laws.FnNatNearest', WHERE WHAT IT READS IS OF BULK AT MOST 1048576: true; the input reads as it did. -/
def fnNatNearestUptoRow : OpenClaim := { program := "ytbaldkpkloohkaadoor", sum := "da512e1f8320f2ed434f60bc793d254704f91d2b1fcafe7425dd9ee912bd8887", func := "loop.example/g00417/laws.FnNatNearest", spec := "fnNatNearest", inPlace := ["internal/bytealg.IndexByteString", "internal/bytealg.IndexString", "internal/abi.NoEscape", "internal/bytealg.MakeNoZero"], named := ["unicode/utf8.first", "unicode/utf8.acceptRanges", "internal/bytealg.MaxLen"], apart := false, laid := [("unicode/utf8.acceptRanges", laid_unicode_utf8_acceptRanges), ("unicode/utf8.first", laid_unicode_utf8_first)], narrowed := true }
def FnNatNearestUptoSaid : Prop := fnNatNearestUptoRow.holds Tryd.pinned (OpenSpec.upto fnNatNearestSpec)

/-- 'laws.FnNatSums', WHERE WHAT IT READS IS OF BULK AT MOST 1048576: true; the input reads as it did. -/
def fnNatSumsUptoRow : OpenClaim := { program := "ytbaldkpkloohkaadoor", sum := "da512e1f8320f2ed434f60bc793d254704f91d2b1fcafe7425dd9ee912bd8887", func := "loop.example/g00417/laws.FnNatSums", spec := "fnNatSums", inPlace := ["internal/bytealg.IndexByteString", "internal/bytealg.IndexString", "internal/bytealg.abigen_runtime_cmpstring", "internal/abi.NoEscape", "internal/bytealg.MakeNoZero"], named := ["unicode/utf8.first", "unicode/utf8.acceptRanges", "internal/bytealg.MaxLen"], apart := false, laid := [("unicode/utf8.acceptRanges", laid_unicode_utf8_acceptRanges), ("unicode/utf8.first", laid_unicode_utf8_first)], narrowed := true }
def FnNatSumsUptoSaid : Prop := fnNatSumsUptoRow.holds Tryd.pinned (OpenSpec.upto fnNatSumsSpec)

end Rows
end Go.Proofs.YtbaldkpkloohkaaDoor

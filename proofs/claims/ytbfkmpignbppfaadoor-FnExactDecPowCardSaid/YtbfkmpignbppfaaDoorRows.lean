/-
  NARROWER THAN 'FOR EVERY INPUT', by the rows' own cells (each row's printed sentence says how): FnExactDecText: laid · FnExactDecRead: laid · FnExactDecOf: laid · FnExactDecWhole: laid · FnExactDecAdd: laid · FnExactDecSub: laid · FnExactDecMul: laid · FnExactDecDiv: laid · FnExactDecMod: laid · FnExactDecPow: laid · FnExactDecInt: laid.
  DERIVED. THE GIVEN ROWS OF THIS SEAT. 11 by the template 'for every input the law returns true; each argument reads behind the call as it read before'; 0 by the template 'total and deterministic' (their statements: YtbfkmpignbppfaaDoorTotals.lean).
  GIVEN WITH THE SEED: the statements are not yours to turn. If you find one false, say at which input.
  Laid BY PROGRAM, IN A SANDBOX (cutbox-rows.mjs): the forced cells as the released guide's own fill.sh prints them over the translation f60f73d6abef821a… (all of the seat's roots in one cut). By AI agents, Wed Nov 11 2026. No macro, syntax, notation, axiom, sorry.
-/
import Derived.Test.YtbfkmpignbppfaaDoorChecked
import GoSem.PinnedTables
import GoSem.Claim
import GoSem.ClaimJoined
import GoSem.ClaimMapViews
import Derived.JoinedTies
import Derived.KernelRfl
namespace Go.Proofs.YtbfkmpignbppfaaDoor
/- THE CELL 'sum', in the pinned program and in every row, IS THE sha256 OF THE DUMP (.gsa) THAT YtbfkmpignbppfaaDoorProg.lean LOADS. Nothing in Lean hashes anything: it is a label: what it is worth is what the hold of that sum in a sandbox is worth. -/
noncomputable def Tryd.pinned : Pinned := { name := "ytbfkmpignbppfaadoor", sum := "f60f73d6abef821a468f3ac796664002171e5ecc4d7bc23fa4e451a136addea5", checked := Tryd.checked }
namespace Rows
def none {H : Type} : Left H := { results := [], args := [] }

/- WHAT THE LISTED PACKAGE-LEVEL VARIABLES READ AS WHEN THE CALL BEGINS. Each datum BY PROGRAM (the guide's laid-datum.mjs) off the statement by which the dump's own 'gosem.cut.vars' lays the variable. In a bare row this is a premise. The card (YtbfkmpignbppfaaDoorCards.lean) ties it to the program's text. -/
def laid_math_bits_deBruijn32tab {H : Type} : DataW H := .agg [.lit (.int .u8 0), .lit (.int .u8 1), .lit (.int .u8 28), .lit (.int .u8 2), .lit (.int .u8 29), .lit (.int .u8 14), .lit (.int .u8 24), .lit (.int .u8 3), .lit (.int .u8 30), .lit (.int .u8 22), .lit (.int .u8 20), .lit (.int .u8 15), .lit (.int .u8 25), .lit (.int .u8 17), .lit (.int .u8 4), .lit (.int .u8 8), .lit (.int .u8 31), .lit (.int .u8 27), .lit (.int .u8 13), .lit (.int .u8 23), .lit (.int .u8 21), .lit (.int .u8 19), .lit (.int .u8 16), .lit (.int .u8 7), .lit (.int .u8 26), .lit (.int .u8 12), .lit (.int .u8 18), .lit (.int .u8 6), .lit (.int .u8 11), .lit (.int .u8 5), .lit (.int .u8 10), .lit (.int .u8 9)]
def laid_math_bits_deBruijn64tab {H : Type} : DataW H := .agg [.lit (.int .u8 0), .lit (.int .u8 1), .lit (.int .u8 56), .lit (.int .u8 2), .lit (.int .u8 57), .lit (.int .u8 49), .lit (.int .u8 28), .lit (.int .u8 3), .lit (.int .u8 61), .lit (.int .u8 58), .lit (.int .u8 42), .lit (.int .u8 50), .lit (.int .u8 38), .lit (.int .u8 29), .lit (.int .u8 17), .lit (.int .u8 4), .lit (.int .u8 62), .lit (.int .u8 47), .lit (.int .u8 59), .lit (.int .u8 36), .lit (.int .u8 45), .lit (.int .u8 43), .lit (.int .u8 51), .lit (.int .u8 22), .lit (.int .u8 53), .lit (.int .u8 39), .lit (.int .u8 33), .lit (.int .u8 30), .lit (.int .u8 24), .lit (.int .u8 18), .lit (.int .u8 12), .lit (.int .u8 5), .lit (.int .u8 63), .lit (.int .u8 55), .lit (.int .u8 48), .lit (.int .u8 27), .lit (.int .u8 60), .lit (.int .u8 41), .lit (.int .u8 37), .lit (.int .u8 16), .lit (.int .u8 46), .lit (.int .u8 35), .lit (.int .u8 44), .lit (.int .u8 21), .lit (.int .u8 52), .lit (.int .u8 32), .lit (.int .u8 23), .lit (.int .u8 11), .lit (.int .u8 54), .lit (.int .u8 26), .lit (.int .u8 40), .lit (.int .u8 15), .lit (.int .u8 34), .lit (.int .u8 20), .lit (.int .u8 31), .lit (.int .u8 10), .lit (.int .u8 25), .lit (.int .u8 14), .lit (.int .u8 19), .lit (.int .u8 9), .lit (.int .u8 13), .lit (.int .u8 8), .lit (.int .u8 7), .lit (.int .u8 6)]
def laid_internal_strconv_uint64pow10 {H : Type} : DataW H := .agg [.lit (.int .u64 1), .lit (.int .u64 10), .lit (.int .u64 100), .lit (.int .u64 1000), .lit (.int .u64 10000), .lit (.int .u64 100000), .lit (.int .u64 1000000), .lit (.int .u64 10000000), .lit (.int .u64 100000000), .lit (.int .u64 1000000000), .lit (.int .u64 10000000000), .lit (.int .u64 100000000000), .lit (.int .u64 1000000000000), .lit (.int .u64 10000000000000), .lit (.int .u64 100000000000000), .lit (.int .u64 1000000000000000), .lit (.int .u64 10000000000000000), .lit (.int .u64 100000000000000000), .lit (.int .u64 1000000000000000000), .lit (.int .u64 10000000000000000000)]
def laid_unicode_utf8_acceptRanges {H : Type} : DataW H := .agg [.agg [.lit (.int .u8 128), .lit (.int .u8 191)], .agg [.lit (.int .u8 160), .lit (.int .u8 191)], .agg [.lit (.int .u8 128), .lit (.int .u8 159)], .agg [.lit (.int .u8 144), .lit (.int .u8 191)], .agg [.lit (.int .u8 128), .lit (.int .u8 143)], .agg [.lit (.int .u8 0), .lit (.int .u8 0)], .agg [.lit (.int .u8 0), .lit (.int .u8 0)], .agg [.lit (.int .u8 0), .lit (.int .u8 0)], .agg [.lit (.int .u8 0), .lit (.int .u8 0)], .agg [.lit (.int .u8 0), .lit (.int .u8 0)], .agg [.lit (.int .u8 0), .lit (.int .u8 0)], .agg [.lit (.int .u8 0), .lit (.int .u8 0)], .agg [.lit (.int .u8 0), .lit (.int .u8 0)], .agg [.lit (.int .u8 0), .lit (.int .u8 0)], .agg [.lit (.int .u8 0), .lit (.int .u8 0)], .agg [.lit (.int .u8 0), .lit (.int .u8 0)]]
def laid_strconv_ErrRange {H : Type} : DataW H := .iface "*errors.errorString" (.ptr (.agg [.lit (.string [118, 97, 108, 117, 101, 32, 111, 117, 116, 32, 111, 102, 32, 114, 97, 110, 103, 101])]))
def laid_strconv_ErrSyntax {H : Type} : DataW H := .iface "*errors.errorString" (.ptr (.agg [.lit (.string [105, 110, 118, 97, 108, 105, 100, 32, 115, 121, 110, 116, 97, 120])]))
/-- One of Go's own tables, pinned by name: the form's constant. -/
def laid_unicode_utf8_first : DataW Unit := Go.Pinned.utf8First

/-- 'laws.FnExactDecText': WHATEVER THE INPUT: true; the input reads as it did. -/
def fnExactDecTextSpec : ChangeSpec := { name := "fnExactDecText", fn := fun _ => fun
  | [d] => { results := [.lit (.bool true)], args := [d] }
  | _ => none }
def fnExactDecTextRow : OpenClaim := { program := "ytbfkmpignbppfaadoor", sum := "f60f73d6abef821a468f3ac796664002171e5ecc4d7bc23fa4e451a136addea5", func := "loop.example/g00417/laws.FnExactDecText", spec := "fnExactDecText", inPlace := ["internal/abi.NoEscape", "internal/bytealg.MakeNoZero"], named := ["internal/strconv.uint64pow10", "math/bits.deBruijn32tab", "math/bits.deBruijn64tab"], apart := false, laid := [("math/bits.deBruijn32tab", laid_math_bits_deBruijn32tab), ("math/bits.deBruijn64tab", laid_math_bits_deBruijn64tab), ("internal/strconv.uint64pow10", laid_internal_strconv_uint64pow10)] }
def FnExactDecTextSaid : Prop := fnExactDecTextRow.holds Tryd.pinned (OpenSpec.ofChange fnExactDecTextSpec)

/-- ITS FALSE NEIGHBOUR: 'it returns false'. Refute it at one input. -/
def fnExactDecTextWrong : ChangeSpec := { name := "fnExactDecText", fn := fun _ => fun
  | [d] => { results := [.lit (.bool false)], args := [d] }
  | _ => none }
def FnExactDecTextWrongFalsely : Prop := fnExactDecTextRow.holds Tryd.pinned (OpenSpec.ofChange fnExactDecTextWrong)

/-- 'laws.FnExactDecRead': WHATEVER THE INPUT: true; the input reads as it did. -/
def fnExactDecReadSpec : ChangeSpec := { name := "fnExactDecRead", fn := fun _ => fun
  | [d] => { results := [.lit (.bool true)], args := [d] }
  | _ => none }
def fnExactDecReadRow : OpenClaim := { program := "ytbfkmpignbppfaadoor", sum := "f60f73d6abef821a468f3ac796664002171e5ecc4d7bc23fa4e451a136addea5", func := "loop.example/g00417/laws.FnExactDecRead", spec := "fnExactDecRead", inPlace := ["internal/bytealg.IndexByteString", "internal/bytealg.IndexString", "internal/abi.NoEscape", "internal/bytealg.MakeNoZero"], named := ["unicode/utf8.first", "unicode/utf8.acceptRanges", "strconv.ErrSyntax", "strconv.ErrRange", "internal/strconv.uint64pow10", "math/bits.deBruijn32tab", "math/bits.deBruijn64tab", "internal/bytealg.MaxLen"], apart := false, laid := [("math/bits.deBruijn32tab", laid_math_bits_deBruijn32tab), ("math/bits.deBruijn64tab", laid_math_bits_deBruijn64tab), ("internal/strconv.uint64pow10", laid_internal_strconv_uint64pow10), ("unicode/utf8.acceptRanges", laid_unicode_utf8_acceptRanges), ("strconv.ErrRange", laid_strconv_ErrRange), ("strconv.ErrSyntax", laid_strconv_ErrSyntax), ("unicode/utf8.first", laid_unicode_utf8_first)] }
def FnExactDecReadSaid : Prop := fnExactDecReadRow.holds Tryd.pinned (OpenSpec.ofChange fnExactDecReadSpec)

/-- ITS FALSE NEIGHBOUR: 'it returns false'. Refute it at one input. -/
def fnExactDecReadWrong : ChangeSpec := { name := "fnExactDecRead", fn := fun _ => fun
  | [d] => { results := [.lit (.bool false)], args := [d] }
  | _ => none }
def FnExactDecReadWrongFalsely : Prop := fnExactDecReadRow.holds Tryd.pinned (OpenSpec.ofChange fnExactDecReadWrong)

/-- 'laws.FnExactDecOf': WHATEVER THE INPUT: true; the input reads as it did. -/
def fnExactDecOfSpec : ChangeSpec := { name := "fnExactDecOf", fn := fun _ => fun
  | [d] => { results := [.lit (.bool true)], args := [d] }
  | _ => none }
def fnExactDecOfRow : OpenClaim := { program := "ytbfkmpignbppfaadoor", sum := "f60f73d6abef821a468f3ac796664002171e5ecc4d7bc23fa4e451a136addea5", func := "loop.example/g00417/laws.FnExactDecOf", spec := "fnExactDecOf", inPlace := ["internal/bytealg.IndexByteString", "internal/bytealg.IndexString", "internal/abi.NoEscape", "internal/bytealg.MakeNoZero"], named := ["internal/strconv.uint64pow10", "math/bits.deBruijn32tab", "math/bits.deBruijn64tab", "unicode/utf8.first", "unicode/utf8.acceptRanges", "internal/bytealg.MaxLen"], apart := false, laid := [("math/bits.deBruijn32tab", laid_math_bits_deBruijn32tab), ("math/bits.deBruijn64tab", laid_math_bits_deBruijn64tab), ("internal/strconv.uint64pow10", laid_internal_strconv_uint64pow10), ("unicode/utf8.acceptRanges", laid_unicode_utf8_acceptRanges), ("unicode/utf8.first", laid_unicode_utf8_first)] }
def FnExactDecOfSaid : Prop := fnExactDecOfRow.holds Tryd.pinned (OpenSpec.ofChange fnExactDecOfSpec)

/-- ITS FALSE NEIGHBOUR: 'it returns false'. Refute it at one input. -/
def fnExactDecOfWrong : ChangeSpec := { name := "fnExactDecOf", fn := fun _ => fun
  | [d] => { results := [.lit (.bool false)], args := [d] }
  | _ => none }
def FnExactDecOfWrongFalsely : Prop := fnExactDecOfRow.holds Tryd.pinned (OpenSpec.ofChange fnExactDecOfWrong)

/-- 'laws.FnExactDecWhole': WHATEVER THE INPUT: true; the input reads as it did. -/
def fnExactDecWholeSpec : ChangeSpec := { name := "fnExactDecWhole", fn := fun _ => fun
  | [d] => { results := [.lit (.bool true)], args := [d] }
  | _ => none }
def fnExactDecWholeRow : OpenClaim := { program := "ytbfkmpignbppfaadoor", sum := "f60f73d6abef821a468f3ac796664002171e5ecc4d7bc23fa4e451a136addea5", func := "loop.example/g00417/laws.FnExactDecWhole", spec := "fnExactDecWhole", inPlace := ["internal/abi.NoEscape", "internal/bytealg.MakeNoZero", "internal/bytealg.abigen_runtime_cmpstring"], named := ["strconv.ErrSyntax", "strconv.ErrRange", "internal/strconv.uint64pow10", "math/bits.deBruijn32tab", "math/bits.deBruijn64tab"], apart := false, laid := [("math/bits.deBruijn32tab", laid_math_bits_deBruijn32tab), ("math/bits.deBruijn64tab", laid_math_bits_deBruijn64tab), ("internal/strconv.uint64pow10", laid_internal_strconv_uint64pow10), ("strconv.ErrRange", laid_strconv_ErrRange), ("strconv.ErrSyntax", laid_strconv_ErrSyntax)] }
def FnExactDecWholeSaid : Prop := fnExactDecWholeRow.holds Tryd.pinned (OpenSpec.ofChange fnExactDecWholeSpec)

/-- ITS FALSE NEIGHBOUR: 'it returns false'. Refute it at one input. -/
def fnExactDecWholeWrong : ChangeSpec := { name := "fnExactDecWhole", fn := fun _ => fun
  | [d] => { results := [.lit (.bool false)], args := [d] }
  | _ => none }
def FnExactDecWholeWrongFalsely : Prop := fnExactDecWholeRow.holds Tryd.pinned (OpenSpec.ofChange fnExactDecWholeWrong)

/-- 'laws.FnExactDecAdd': WHATEVER THE INPUT: true; the input reads as it did. -/
def fnExactDecAddSpec : ChangeSpec := { name := "fnExactDecAdd", fn := fun _ => fun
  | [d1, d2] => { results := [.lit (.bool true)], args := [d1, d2] }
  | _ => none }
def fnExactDecAddRow : OpenClaim := { program := "ytbfkmpignbppfaadoor", sum := "f60f73d6abef821a468f3ac796664002171e5ecc4d7bc23fa4e451a136addea5", func := "loop.example/g00417/laws.FnExactDecAdd", spec := "fnExactDecAdd", inPlace := ["internal/abi.NoEscape", "internal/bytealg.MakeNoZero", "internal/bytealg.IndexByteString", "internal/bytealg.IndexString", "internal/bytealg.abigen_runtime_cmpstring"], named := ["unicode/utf8.first", "unicode/utf8.acceptRanges", "internal/bytealg.MaxLen"], apart := false, laid := [("unicode/utf8.acceptRanges", laid_unicode_utf8_acceptRanges), ("unicode/utf8.first", laid_unicode_utf8_first)] }
def FnExactDecAddSaid : Prop := fnExactDecAddRow.holds Tryd.pinned (OpenSpec.ofChange fnExactDecAddSpec)

/-- ITS FALSE NEIGHBOUR: 'it returns false'. Refute it at one input. -/
def fnExactDecAddWrong : ChangeSpec := { name := "fnExactDecAdd", fn := fun _ => fun
  | [d1, d2] => { results := [.lit (.bool false)], args := [d1, d2] }
  | _ => none }
def FnExactDecAddWrongFalsely : Prop := fnExactDecAddRow.holds Tryd.pinned (OpenSpec.ofChange fnExactDecAddWrong)

/-- 'laws.FnExactDecSub': WHATEVER THE INPUT: true; the input reads as it did. -/
def fnExactDecSubSpec : ChangeSpec := { name := "fnExactDecSub", fn := fun _ => fun
  | [d1, d2] => { results := [.lit (.bool true)], args := [d1, d2] }
  | _ => none }
def fnExactDecSubRow : OpenClaim := { program := "ytbfkmpignbppfaadoor", sum := "f60f73d6abef821a468f3ac796664002171e5ecc4d7bc23fa4e451a136addea5", func := "loop.example/g00417/laws.FnExactDecSub", spec := "fnExactDecSub", inPlace := ["internal/abi.NoEscape", "internal/bytealg.MakeNoZero", "internal/bytealg.IndexByteString", "internal/bytealg.IndexString", "internal/bytealg.abigen_runtime_cmpstring"], named := ["unicode/utf8.first", "unicode/utf8.acceptRanges", "internal/bytealg.MaxLen"], apart := false, laid := [("unicode/utf8.acceptRanges", laid_unicode_utf8_acceptRanges), ("unicode/utf8.first", laid_unicode_utf8_first)] }
def FnExactDecSubSaid : Prop := fnExactDecSubRow.holds Tryd.pinned (OpenSpec.ofChange fnExactDecSubSpec)

/-- ITS FALSE NEIGHBOUR: 'it returns false'. Refute it at one input. -/
def fnExactDecSubWrong : ChangeSpec := { name := "fnExactDecSub", fn := fun _ => fun
  | [d1, d2] => { results := [.lit (.bool false)], args := [d1, d2] }
  | _ => none }
def FnExactDecSubWrongFalsely : Prop := fnExactDecSubRow.holds Tryd.pinned (OpenSpec.ofChange fnExactDecSubWrong)

/-- 'laws.FnExactDecMul': WHATEVER THE INPUT: true; the input reads as it did. -/
def fnExactDecMulSpec : ChangeSpec := { name := "fnExactDecMul", fn := fun _ => fun
  | [d1, d2] => { results := [.lit (.bool true)], args := [d1, d2] }
  | _ => none }
def fnExactDecMulRow : OpenClaim := { program := "ytbfkmpignbppfaadoor", sum := "f60f73d6abef821a468f3ac796664002171e5ecc4d7bc23fa4e451a136addea5", func := "loop.example/g00417/laws.FnExactDecMul", spec := "fnExactDecMul", inPlace := ["internal/bytealg.IndexByteString", "internal/bytealg.IndexString", "internal/abi.NoEscape", "internal/bytealg.MakeNoZero"], named := ["unicode/utf8.first", "unicode/utf8.acceptRanges", "internal/bytealg.MaxLen"], apart := false, laid := [("unicode/utf8.acceptRanges", laid_unicode_utf8_acceptRanges), ("unicode/utf8.first", laid_unicode_utf8_first)] }
def FnExactDecMulSaid : Prop := fnExactDecMulRow.holds Tryd.pinned (OpenSpec.ofChange fnExactDecMulSpec)

/-- ITS FALSE NEIGHBOUR: 'it returns false'. Refute it at one input. -/
def fnExactDecMulWrong : ChangeSpec := { name := "fnExactDecMul", fn := fun _ => fun
  | [d1, d2] => { results := [.lit (.bool false)], args := [d1, d2] }
  | _ => none }
def FnExactDecMulWrongFalsely : Prop := fnExactDecMulRow.holds Tryd.pinned (OpenSpec.ofChange fnExactDecMulWrong)

/-- 'laws.FnExactDecDiv': WHATEVER THE INPUT: true; the input reads as it did. -/
def fnExactDecDivSpec : ChangeSpec := { name := "fnExactDecDiv", fn := fun _ => fun
  | [d1, d2] => { results := [.lit (.bool true)], args := [d1, d2] }
  | _ => none }
def fnExactDecDivRow : OpenClaim := { program := "ytbfkmpignbppfaadoor", sum := "f60f73d6abef821a468f3ac796664002171e5ecc4d7bc23fa4e451a136addea5", func := "loop.example/g00417/laws.FnExactDecDiv", spec := "fnExactDecDiv", inPlace := ["internal/abi.NoEscape", "internal/bytealg.MakeNoZero", "internal/bytealg.IndexByteString", "internal/bytealg.IndexString", "internal/bytealg.abigen_runtime_cmpstring"], named := ["unicode/utf8.first", "unicode/utf8.acceptRanges", "internal/bytealg.MaxLen"], apart := false, laid := [("unicode/utf8.acceptRanges", laid_unicode_utf8_acceptRanges), ("unicode/utf8.first", laid_unicode_utf8_first)] }
def FnExactDecDivSaid : Prop := fnExactDecDivRow.holds Tryd.pinned (OpenSpec.ofChange fnExactDecDivSpec)

/-- ITS FALSE NEIGHBOUR: 'it returns false'. Refute it at one input. -/
def fnExactDecDivWrong : ChangeSpec := { name := "fnExactDecDiv", fn := fun _ => fun
  | [d1, d2] => { results := [.lit (.bool false)], args := [d1, d2] }
  | _ => none }
def FnExactDecDivWrongFalsely : Prop := fnExactDecDivRow.holds Tryd.pinned (OpenSpec.ofChange fnExactDecDivWrong)

/-- 'laws.FnExactDecMod': WHATEVER THE INPUT: true; the input reads as it did. -/
def fnExactDecModSpec : ChangeSpec := { name := "fnExactDecMod", fn := fun _ => fun
  | [d1, d2] => { results := [.lit (.bool true)], args := [d1, d2] }
  | _ => none }
def fnExactDecModRow : OpenClaim := { program := "ytbfkmpignbppfaadoor", sum := "f60f73d6abef821a468f3ac796664002171e5ecc4d7bc23fa4e451a136addea5", func := "loop.example/g00417/laws.FnExactDecMod", spec := "fnExactDecMod", inPlace := ["internal/abi.NoEscape", "internal/bytealg.MakeNoZero", "internal/bytealg.IndexByteString", "internal/bytealg.IndexString", "internal/bytealg.abigen_runtime_cmpstring"], named := ["unicode/utf8.first", "unicode/utf8.acceptRanges", "internal/bytealg.MaxLen"], apart := false, laid := [("unicode/utf8.acceptRanges", laid_unicode_utf8_acceptRanges), ("unicode/utf8.first", laid_unicode_utf8_first)] }
def FnExactDecModSaid : Prop := fnExactDecModRow.holds Tryd.pinned (OpenSpec.ofChange fnExactDecModSpec)

/-- ITS FALSE NEIGHBOUR: 'it returns false'. Refute it at one input. -/
def fnExactDecModWrong : ChangeSpec := { name := "fnExactDecMod", fn := fun _ => fun
  | [d1, d2] => { results := [.lit (.bool false)], args := [d1, d2] }
  | _ => none }
def FnExactDecModWrongFalsely : Prop := fnExactDecModRow.holds Tryd.pinned (OpenSpec.ofChange fnExactDecModWrong)

/-- 'laws.FnExactDecPow': WHATEVER THE INPUT: true; the input reads as it did. -/
def fnExactDecPowSpec : ChangeSpec := { name := "fnExactDecPow", fn := fun _ => fun
  | [d1, d2] => { results := [.lit (.bool true)], args := [d1, d2] }
  | _ => none }
def fnExactDecPowRow : OpenClaim := { program := "ytbfkmpignbppfaadoor", sum := "f60f73d6abef821a468f3ac796664002171e5ecc4d7bc23fa4e451a136addea5", func := "loop.example/g00417/laws.FnExactDecPow", spec := "fnExactDecPow", inPlace := ["internal/bytealg.IndexByteString", "internal/bytealg.IndexString", "internal/abi.NoEscape", "internal/bytealg.MakeNoZero", "internal/bytealg.abigen_runtime_cmpstring"], recurses := true, named := ["unicode/utf8.first", "unicode/utf8.acceptRanges", "internal/bytealg.MaxLen"], apart := false, laid := [("unicode/utf8.acceptRanges", laid_unicode_utf8_acceptRanges), ("unicode/utf8.first", laid_unicode_utf8_first)] }
def FnExactDecPowSaid : Prop := fnExactDecPowRow.holds Tryd.pinned (OpenSpec.ofChange fnExactDecPowSpec)

/-- ITS FALSE NEIGHBOUR: 'it returns false'. Refute it at one input. -/
def fnExactDecPowWrong : ChangeSpec := { name := "fnExactDecPow", fn := fun _ => fun
  | [d1, d2] => { results := [.lit (.bool false)], args := [d1, d2] }
  | _ => none }
def FnExactDecPowWrongFalsely : Prop := fnExactDecPowRow.holds Tryd.pinned (OpenSpec.ofChange fnExactDecPowWrong)

/-- 'laws.FnExactDecInt': WHATEVER THE INPUT: true; the input reads as it did. -/
def fnExactDecIntSpec : ChangeSpec := { name := "fnExactDecInt", fn := fun _ => fun
  | [d] => { results := [.lit (.bool true)], args := [d] }
  | _ => none }
def fnExactDecIntRow : OpenClaim := { program := "ytbfkmpignbppfaadoor", sum := "f60f73d6abef821a468f3ac796664002171e5ecc4d7bc23fa4e451a136addea5", func := "loop.example/g00417/laws.FnExactDecInt", spec := "fnExactDecInt", inPlace := ["internal/bytealg.IndexByteString", "internal/bytealg.IndexString", "internal/abi.NoEscape", "internal/bytealg.MakeNoZero"], named := ["unicode/utf8.first", "unicode/utf8.acceptRanges", "internal/bytealg.MaxLen"], apart := false, laid := [("unicode/utf8.acceptRanges", laid_unicode_utf8_acceptRanges), ("unicode/utf8.first", laid_unicode_utf8_first)] }
def FnExactDecIntSaid : Prop := fnExactDecIntRow.holds Tryd.pinned (OpenSpec.ofChange fnExactDecIntSpec)

/-- ITS FALSE NEIGHBOUR: 'it returns false'. Refute it at one input. -/
def fnExactDecIntWrong : ChangeSpec := { name := "fnExactDecInt", fn := fun _ => fun
  | [d] => { results := [.lit (.bool false)], args := [d] }
  | _ => none }
def FnExactDecIntWrongFalsely : Prop := fnExactDecIntRow.holds Tryd.pinned (OpenSpec.ofChange fnExactDecIntWrong)

/- THE SECOND FORM. 'bulk': how many values and letters a reading holds, each counted each time it is reached (what is shared counts as often as it is met; a slice's spare places count too). A statement '..UptoSaid' is the law's where the arguments, and the package variables that the reading takes, are together of bulk at most 1048576: NARROWER than '..Said'. Prove '..Said' where nothing that the law and all that it calls make is longer than what came in: it says more and counts as full. Else prove '..UptoSaid'. A law counts once. -/
mutual
def uptoBulk {H : Type} : DataW H → Nat
  | .lit (.string bytes) => bytes.length + 1
  | .lit _ => 1
  | .nil => 1
  | .ptr d => uptoBulk d + 1
  | .slice elems spare => uptoBulkAll elems + uptoBulkAll spare + 1
  | .agg parts => uptoBulkAll parts + 1
  | .iface _ d => uptoBulk d + 1
  | .map entries => uptoBulkEntries entries + 1
  | .held _ => 1
def uptoBulkAll {H : Type} : List (DataW H) → Nat
  | [] => 0
  | d :: r => uptoBulk d + uptoBulkAll r
def uptoBulkEntries {H : Type} : List (Lit × DataW H) → Nat
  | [] => 0
  | x :: r => uptoBulkEntry x + uptoBulkEntries r
def uptoBulkEntry {H : Type} : Lit × DataW H → Nat
  | (.string bytes, d) => bytes.length + uptoBulk d + 1
  | (_, d) => uptoBulk d + 1
 end
def uptoSmall : (H : Type) → List (DataW H) → Bool := fun _ ds => decide (uptoBulkAll ds ≤ 1048576)
def OpenSpec.upto (s : _root_.Go.ChangeSpec) : _root_.Go.OpenSpec := { _root_.Go.OpenSpec.ofChange s with cond := some uptoSmall }

/-- 'laws.FnExactDecText', WHERE WHAT IT READS IS OF BULK AT MOST 1048576: true; the input reads as it did. -/
def fnExactDecTextUptoRow : OpenClaim := { program := "ytbfkmpignbppfaadoor", sum := "f60f73d6abef821a468f3ac796664002171e5ecc4d7bc23fa4e451a136addea5", func := "loop.example/g00417/laws.FnExactDecText", spec := "fnExactDecText", inPlace := ["internal/abi.NoEscape", "internal/bytealg.MakeNoZero"], named := ["internal/strconv.uint64pow10", "math/bits.deBruijn32tab", "math/bits.deBruijn64tab"], apart := false, laid := [("math/bits.deBruijn32tab", laid_math_bits_deBruijn32tab), ("math/bits.deBruijn64tab", laid_math_bits_deBruijn64tab), ("internal/strconv.uint64pow10", laid_internal_strconv_uint64pow10)], narrowed := true }
def FnExactDecTextUptoSaid : Prop := fnExactDecTextUptoRow.holds Tryd.pinned (OpenSpec.upto fnExactDecTextSpec)

/-- 'laws.FnExactDecRead', WHERE WHAT IT READS IS OF BULK AT MOST 1048576: true; the input reads as it did. -/
def fnExactDecReadUptoRow : OpenClaim := { program := "ytbfkmpignbppfaadoor", sum := "f60f73d6abef821a468f3ac796664002171e5ecc4d7bc23fa4e451a136addea5", func := "loop.example/g00417/laws.FnExactDecRead", spec := "fnExactDecRead", inPlace := ["internal/bytealg.IndexByteString", "internal/bytealg.IndexString", "internal/abi.NoEscape", "internal/bytealg.MakeNoZero"], named := ["unicode/utf8.first", "unicode/utf8.acceptRanges", "strconv.ErrSyntax", "strconv.ErrRange", "internal/strconv.uint64pow10", "math/bits.deBruijn32tab", "math/bits.deBruijn64tab", "internal/bytealg.MaxLen"], apart := false, laid := [("math/bits.deBruijn32tab", laid_math_bits_deBruijn32tab), ("math/bits.deBruijn64tab", laid_math_bits_deBruijn64tab), ("internal/strconv.uint64pow10", laid_internal_strconv_uint64pow10), ("unicode/utf8.acceptRanges", laid_unicode_utf8_acceptRanges), ("strconv.ErrRange", laid_strconv_ErrRange), ("strconv.ErrSyntax", laid_strconv_ErrSyntax), ("unicode/utf8.first", laid_unicode_utf8_first)], narrowed := true }
def FnExactDecReadUptoSaid : Prop := fnExactDecReadUptoRow.holds Tryd.pinned (OpenSpec.upto fnExactDecReadSpec)

/-- 'laws.FnExactDecOf', WHERE WHAT IT READS IS OF BULK AT MOST 1048576: true; the input reads as it did. -/
def fnExactDecOfUptoRow : OpenClaim := { program := "ytbfkmpignbppfaadoor", sum := "f60f73d6abef821a468f3ac796664002171e5ecc4d7bc23fa4e451a136addea5", func := "loop.example/g00417/laws.FnExactDecOf", spec := "fnExactDecOf", inPlace := ["internal/bytealg.IndexByteString", "internal/bytealg.IndexString", "internal/abi.NoEscape", "internal/bytealg.MakeNoZero"], named := ["internal/strconv.uint64pow10", "math/bits.deBruijn32tab", "math/bits.deBruijn64tab", "unicode/utf8.first", "unicode/utf8.acceptRanges", "internal/bytealg.MaxLen"], apart := false, laid := [("math/bits.deBruijn32tab", laid_math_bits_deBruijn32tab), ("math/bits.deBruijn64tab", laid_math_bits_deBruijn64tab), ("internal/strconv.uint64pow10", laid_internal_strconv_uint64pow10), ("unicode/utf8.acceptRanges", laid_unicode_utf8_acceptRanges), ("unicode/utf8.first", laid_unicode_utf8_first)], narrowed := true }
def FnExactDecOfUptoSaid : Prop := fnExactDecOfUptoRow.holds Tryd.pinned (OpenSpec.upto fnExactDecOfSpec)

/-- 'laws.FnExactDecWhole', WHERE WHAT IT READS IS OF BULK AT MOST 1048576: true; the input reads as it did. -/
def fnExactDecWholeUptoRow : OpenClaim := { program := "ytbfkmpignbppfaadoor", sum := "f60f73d6abef821a468f3ac796664002171e5ecc4d7bc23fa4e451a136addea5", func := "loop.example/g00417/laws.FnExactDecWhole", spec := "fnExactDecWhole", inPlace := ["internal/abi.NoEscape", "internal/bytealg.MakeNoZero", "internal/bytealg.abigen_runtime_cmpstring"], named := ["strconv.ErrSyntax", "strconv.ErrRange", "internal/strconv.uint64pow10", "math/bits.deBruijn32tab", "math/bits.deBruijn64tab"], apart := false, laid := [("math/bits.deBruijn32tab", laid_math_bits_deBruijn32tab), ("math/bits.deBruijn64tab", laid_math_bits_deBruijn64tab), ("internal/strconv.uint64pow10", laid_internal_strconv_uint64pow10), ("strconv.ErrRange", laid_strconv_ErrRange), ("strconv.ErrSyntax", laid_strconv_ErrSyntax)], narrowed := true }
def FnExactDecWholeUptoSaid : Prop := fnExactDecWholeUptoRow.holds Tryd.pinned (OpenSpec.upto fnExactDecWholeSpec)

/-- 'laws.FnExactDecAdd', WHERE WHAT IT READS IS OF BULK AT MOST 1048576: true; the input reads as it did. -/
def fnExactDecAddUptoRow : OpenClaim := { program := "ytbfkmpignbppfaadoor", sum := "f60f73d6abef821a468f3ac796664002171e5ecc4d7bc23fa4e451a136addea5", func := "loop.example/g00417/laws.FnExactDecAdd", spec := "fnExactDecAdd", inPlace := ["internal/abi.NoEscape", "internal/bytealg.MakeNoZero", "internal/bytealg.IndexByteString", "internal/bytealg.IndexString", "internal/bytealg.abigen_runtime_cmpstring"], named := ["unicode/utf8.first", "unicode/utf8.acceptRanges", "internal/bytealg.MaxLen"], apart := false, laid := [("unicode/utf8.acceptRanges", laid_unicode_utf8_acceptRanges), ("unicode/utf8.first", laid_unicode_utf8_first)], narrowed := true }
def FnExactDecAddUptoSaid : Prop := fnExactDecAddUptoRow.holds Tryd.pinned (OpenSpec.upto fnExactDecAddSpec)

/-- 'laws.FnExactDecSub', WHERE WHAT IT READS IS OF BULK AT MOST 1048576: true; the input reads as it did. -/
def fnExactDecSubUptoRow : OpenClaim := { program := "ytbfkmpignbppfaadoor", sum := "f60f73d6abef821a468f3ac796664002171e5ecc4d7bc23fa4e451a136addea5", func := "loop.example/g00417/laws.FnExactDecSub", spec := "fnExactDecSub", inPlace := ["internal/abi.NoEscape", "internal/bytealg.MakeNoZero", "internal/bytealg.IndexByteString", "internal/bytealg.IndexString", "internal/bytealg.abigen_runtime_cmpstring"], named := ["unicode/utf8.first", "unicode/utf8.acceptRanges", "internal/bytealg.MaxLen"], apart := false, laid := [("unicode/utf8.acceptRanges", laid_unicode_utf8_acceptRanges), ("unicode/utf8.first", laid_unicode_utf8_first)], narrowed := true }
def FnExactDecSubUptoSaid : Prop := fnExactDecSubUptoRow.holds Tryd.pinned (OpenSpec.upto fnExactDecSubSpec)

/-- 'laws.FnExactDecMul', WHERE WHAT IT READS IS OF BULK AT MOST 1048576: true; the input reads as it did. -/
def fnExactDecMulUptoRow : OpenClaim := { program := "ytbfkmpignbppfaadoor", sum := "f60f73d6abef821a468f3ac796664002171e5ecc4d7bc23fa4e451a136addea5", func := "loop.example/g00417/laws.FnExactDecMul", spec := "fnExactDecMul", inPlace := ["internal/bytealg.IndexByteString", "internal/bytealg.IndexString", "internal/abi.NoEscape", "internal/bytealg.MakeNoZero"], named := ["unicode/utf8.first", "unicode/utf8.acceptRanges", "internal/bytealg.MaxLen"], apart := false, laid := [("unicode/utf8.acceptRanges", laid_unicode_utf8_acceptRanges), ("unicode/utf8.first", laid_unicode_utf8_first)], narrowed := true }
def FnExactDecMulUptoSaid : Prop := fnExactDecMulUptoRow.holds Tryd.pinned (OpenSpec.upto fnExactDecMulSpec)

/-- 'laws.FnExactDecDiv', WHERE WHAT IT READS IS OF BULK AT MOST 1048576: true; the input reads as it did. -/
def fnExactDecDivUptoRow : OpenClaim := { program := "ytbfkmpignbppfaadoor", sum := "f60f73d6abef821a468f3ac796664002171e5ecc4d7bc23fa4e451a136addea5", func := "loop.example/g00417/laws.FnExactDecDiv", spec := "fnExactDecDiv", inPlace := ["internal/abi.NoEscape", "internal/bytealg.MakeNoZero", "internal/bytealg.IndexByteString", "internal/bytealg.IndexString", "internal/bytealg.abigen_runtime_cmpstring"], named := ["unicode/utf8.first", "unicode/utf8.acceptRanges", "internal/bytealg.MaxLen"], apart := false, laid := [("unicode/utf8.acceptRanges", laid_unicode_utf8_acceptRanges), ("unicode/utf8.first", laid_unicode_utf8_first)], narrowed := true }
def FnExactDecDivUptoSaid : Prop := fnExactDecDivUptoRow.holds Tryd.pinned (OpenSpec.upto fnExactDecDivSpec)

/-- 'laws.FnExactDecMod', WHERE WHAT IT READS IS OF BULK AT MOST 1048576: true; the input reads as it did. -/
def fnExactDecModUptoRow : OpenClaim := { program := "ytbfkmpignbppfaadoor", sum := "f60f73d6abef821a468f3ac796664002171e5ecc4d7bc23fa4e451a136addea5", func := "loop.example/g00417/laws.FnExactDecMod", spec := "fnExactDecMod", inPlace := ["internal/abi.NoEscape", "internal/bytealg.MakeNoZero", "internal/bytealg.IndexByteString", "internal/bytealg.IndexString", "internal/bytealg.abigen_runtime_cmpstring"], named := ["unicode/utf8.first", "unicode/utf8.acceptRanges", "internal/bytealg.MaxLen"], apart := false, laid := [("unicode/utf8.acceptRanges", laid_unicode_utf8_acceptRanges), ("unicode/utf8.first", laid_unicode_utf8_first)], narrowed := true }
def FnExactDecModUptoSaid : Prop := fnExactDecModUptoRow.holds Tryd.pinned (OpenSpec.upto fnExactDecModSpec)

/-- 'laws.FnExactDecPow', WHERE WHAT IT READS IS OF BULK AT MOST 1048576: true; the input reads as it did. -/
def fnExactDecPowUptoRow : OpenClaim := { program := "ytbfkmpignbppfaadoor", sum := "f60f73d6abef821a468f3ac796664002171e5ecc4d7bc23fa4e451a136addea5", func := "loop.example/g00417/laws.FnExactDecPow", spec := "fnExactDecPow", inPlace := ["internal/bytealg.IndexByteString", "internal/bytealg.IndexString", "internal/abi.NoEscape", "internal/bytealg.MakeNoZero", "internal/bytealg.abigen_runtime_cmpstring"], recurses := true, named := ["unicode/utf8.first", "unicode/utf8.acceptRanges", "internal/bytealg.MaxLen"], apart := false, laid := [("unicode/utf8.acceptRanges", laid_unicode_utf8_acceptRanges), ("unicode/utf8.first", laid_unicode_utf8_first)], narrowed := true }
def FnExactDecPowUptoSaid : Prop := fnExactDecPowUptoRow.holds Tryd.pinned (OpenSpec.upto fnExactDecPowSpec)

/-- 'laws.FnExactDecInt', WHERE WHAT IT READS IS OF BULK AT MOST 1048576: true; the input reads as it did. -/
def fnExactDecIntUptoRow : OpenClaim := { program := "ytbfkmpignbppfaadoor", sum := "f60f73d6abef821a468f3ac796664002171e5ecc4d7bc23fa4e451a136addea5", func := "loop.example/g00417/laws.FnExactDecInt", spec := "fnExactDecInt", inPlace := ["internal/bytealg.IndexByteString", "internal/bytealg.IndexString", "internal/abi.NoEscape", "internal/bytealg.MakeNoZero"], named := ["unicode/utf8.first", "unicode/utf8.acceptRanges", "internal/bytealg.MaxLen"], apart := false, laid := [("unicode/utf8.acceptRanges", laid_unicode_utf8_acceptRanges), ("unicode/utf8.first", laid_unicode_utf8_first)], narrowed := true }
def FnExactDecIntUptoSaid : Prop := fnExactDecIntUptoRow.holds Tryd.pinned (OpenSpec.upto fnExactDecIntSpec)

end Rows
end Go.Proofs.YtbfkmpignbppfaaDoor

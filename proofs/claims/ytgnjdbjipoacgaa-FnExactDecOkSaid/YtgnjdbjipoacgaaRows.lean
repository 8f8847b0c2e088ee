/-
  No cell of these rows narrows 'for every input' (looked for: loops, veiled, ifaces, maps, wideKeys, modest, calm, conditions, laid).
  DERIVED. THE GIVEN ROWS OF THIS SEAT. 6 by the template 'for every input the law returns true; each argument reads behind the call as it read before'; 0 by the template 'total and deterministic' (their statements: YtgnjdbjipoacgaaTotals.lean).
  GIVEN WITH THE SEED: the statements are not yours to turn. If you find one false, say at which input.
  Laid BY PROGRAM, IN A SANDBOX (cutbox-rows.mjs): the forced cells as the released guide's own fill.sh prints them over the translation 1bc303a9771b5c97… (all of the seat's roots in one cut). By AI agents, Wed Nov 11 2026. No macro, syntax, notation, axiom, sorry.
-/
import Derived.Test.YtgnjdbjipoacgaaChecked
import GoSem.Claim
import GoSem.ClaimJoined
import GoSem.ClaimMapViews
import Derived.JoinedTies
import Derived.KernelRfl
namespace Go.Proofs.Ytgnjdbjipoacgaa
/- THE CELL 'sum', in the pinned program and in every row, IS THE sha256 OF THE DUMP (.gsa) THAT YtgnjdbjipoacgaaProg.lean LOADS. Nothing in Lean hashes anything: it is a label: what it is worth is what the hold of that sum in a sandbox is worth. -/
noncomputable def Try.pinned : Pinned := { name := "ytgnjdbjipoacgaa", sum := "1bc303a9771b5c9716f31ff9ff5a4e9226207daf63c7015d6f3acbf6fb6f2e61", checked := Try.checked }
namespace Rows
def none {H : Type} : Left H := { results := [], args := [] }

/-- 'laws.FnExactConstants': WHATEVER THE INPUT: true; the input reads as it did. -/
def fnExactConstantsSpec : ChangeSpec := { name := "fnExactConstants", fn := fun _ => fun
  | [] => { results := [.lit (.bool true)], args := [] }
  | _ => none }
def fnExactConstantsRow : OpenClaim := { program := "ytgnjdbjipoacgaa", sum := "1bc303a9771b5c9716f31ff9ff5a4e9226207daf63c7015d6f3acbf6fb6f2e61", func := "loop.example/g00417/laws.FnExactConstants", spec := "fnExactConstants", apart := false }
def FnExactConstantsSaid : Prop := fnExactConstantsRow.holds Try.pinned (OpenSpec.ofChange fnExactConstantsSpec)

/-- ITS FALSE NEIGHBOUR: 'it returns false'. Refute it at one input. -/
def fnExactConstantsWrong : ChangeSpec := { name := "fnExactConstants", fn := fun _ => fun
  | [] => { results := [.lit (.bool false)], args := [] }
  | _ => none }
def FnExactConstantsWrongFalsely : Prop := fnExactConstantsRow.holds Try.pinned (OpenSpec.ofChange fnExactConstantsWrong)

/-- 'laws.FnExactIsBlank': WHATEVER THE INPUT: true; the input reads as it did. -/
def fnExactIsBlankSpec : ChangeSpec := { name := "fnExactIsBlank", fn := fun _ => fun
  | [d] => { results := [.lit (.bool true)], args := [d] }
  | _ => none }
def fnExactIsBlankRow : OpenClaim := { program := "ytgnjdbjipoacgaa", sum := "1bc303a9771b5c9716f31ff9ff5a4e9226207daf63c7015d6f3acbf6fb6f2e61", func := "loop.example/g00417/laws.FnExactIsBlank", spec := "fnExactIsBlank", apart := false }
def FnExactIsBlankSaid : Prop := fnExactIsBlankRow.holds Try.pinned (OpenSpec.ofChange fnExactIsBlankSpec)

/-- ITS FALSE NEIGHBOUR: 'it returns false'. Refute it at one input. -/
def fnExactIsBlankWrong : ChangeSpec := { name := "fnExactIsBlank", fn := fun _ => fun
  | [d] => { results := [.lit (.bool false)], args := [d] }
  | _ => none }
def FnExactIsBlankWrongFalsely : Prop := fnExactIsBlankRow.holds Try.pinned (OpenSpec.ofChange fnExactIsBlankWrong)

/-- 'laws.FnExactNatOk': WHATEVER THE INPUT: true; the input reads as it did. -/
def fnExactNatOkSpec : ChangeSpec := { name := "fnExactNatOk", fn := fun _ => fun
  | [d] => { results := [.lit (.bool true)], args := [d] }
  | _ => none }
def fnExactNatOkRow : OpenClaim := { program := "ytgnjdbjipoacgaa", sum := "1bc303a9771b5c9716f31ff9ff5a4e9226207daf63c7015d6f3acbf6fb6f2e61", func := "loop.example/g00417/laws.FnExactNatOk", spec := "fnExactNatOk", apart := false }
def FnExactNatOkSaid : Prop := fnExactNatOkRow.holds Try.pinned (OpenSpec.ofChange fnExactNatOkSpec)

/-- ITS FALSE NEIGHBOUR: 'it returns false'. Refute it at one input. -/
def fnExactNatOkWrong : ChangeSpec := { name := "fnExactNatOk", fn := fun _ => fun
  | [d] => { results := [.lit (.bool false)], args := [d] }
  | _ => none }
def FnExactNatOkWrongFalsely : Prop := fnExactNatOkRow.holds Try.pinned (OpenSpec.ofChange fnExactNatOkWrong)

/-- 'laws.FnExactRxHas': WHATEVER THE INPUT: true; the input reads as it did. -/
def fnExactRxHasSpec : ChangeSpec := { name := "fnExactRxHas", fn := fun _ => fun
  | [d1, d2, d3] => { results := [.lit (.bool true)], args := [d1, d2, d3] }
  | _ => none }
def fnExactRxHasRow : OpenClaim := { program := "ytgnjdbjipoacgaa", sum := "1bc303a9771b5c9716f31ff9ff5a4e9226207daf63c7015d6f3acbf6fb6f2e61", func := "loop.example/g00417/laws.FnExactRxHas", spec := "fnExactRxHas", apart := false }
def FnExactRxHasSaid : Prop := fnExactRxHasRow.holds Try.pinned (OpenSpec.ofChange fnExactRxHasSpec)

/-- ITS FALSE NEIGHBOUR: 'it returns false'. Refute it at one input. -/
def fnExactRxHasWrong : ChangeSpec := { name := "fnExactRxHas", fn := fun _ => fun
  | [d1, d2, d3] => { results := [.lit (.bool false)], args := [d1, d2, d3] }
  | _ => none }
def FnExactRxHasWrongFalsely : Prop := fnExactRxHasRow.holds Try.pinned (OpenSpec.ofChange fnExactRxHasWrong)

/-- 'laws.FnExactDecOk': WHATEVER THE INPUT: true; the input reads as it did. -/
def fnExactDecOkSpec : ChangeSpec := { name := "fnExactDecOk", fn := fun _ => fun
  | [d] => { results := [.lit (.bool true)], args := [d] }
  | _ => none }
def fnExactDecOkRow : OpenClaim := { program := "ytgnjdbjipoacgaa", sum := "1bc303a9771b5c9716f31ff9ff5a4e9226207daf63c7015d6f3acbf6fb6f2e61", func := "loop.example/g00417/laws.FnExactDecOk", spec := "fnExactDecOk", apart := false }
def FnExactDecOkSaid : Prop := fnExactDecOkRow.holds Try.pinned (OpenSpec.ofChange fnExactDecOkSpec)

/-- ITS FALSE NEIGHBOUR: 'it returns false'. Refute it at one input. -/
def fnExactDecOkWrong : ChangeSpec := { name := "fnExactDecOk", fn := fun _ => fun
  | [d] => { results := [.lit (.bool false)], args := [d] }
  | _ => none }
def FnExactDecOkWrongFalsely : Prop := fnExactDecOkRow.holds Try.pinned (OpenSpec.ofChange fnExactDecOkWrong)

/-- 'laws.FnExactDecNeg': WHATEVER THE INPUT: true; the input reads as it did. -/
def fnExactDecNegSpec : ChangeSpec := { name := "fnExactDecNeg", fn := fun _ => fun
  | [d] => { results := [.lit (.bool true)], args := [d] }
  | _ => none }
def fnExactDecNegRow : OpenClaim := { program := "ytgnjdbjipoacgaa", sum := "1bc303a9771b5c9716f31ff9ff5a4e9226207daf63c7015d6f3acbf6fb6f2e61", func := "loop.example/g00417/laws.FnExactDecNeg", spec := "fnExactDecNeg", apart := false }
def FnExactDecNegSaid : Prop := fnExactDecNegRow.holds Try.pinned (OpenSpec.ofChange fnExactDecNegSpec)

/-- ITS FALSE NEIGHBOUR: 'it returns false'. Refute it at one input. -/
def fnExactDecNegWrong : ChangeSpec := { name := "fnExactDecNeg", fn := fun _ => fun
  | [d] => { results := [.lit (.bool false)], args := [d] }
  | _ => none }
def FnExactDecNegWrongFalsely : Prop := fnExactDecNegRow.holds Try.pinned (OpenSpec.ofChange fnExactDecNegWrong)

/- THE SECOND FORM. 'bulk': how many values and letters a reading holds, each counted each time it is reached (what is shared counts as often as it is met; a slice's spare places count too). A statement '..UptoSaid' is the law's where the arguments, and the package variables that the reading takes, are together of bulk at most 1048576: NARROWER than '..Said'. Prove '..Said' where nothing that the law and all that it calls make is longer than what came in: it says more and counts as full. Else prove '..UptoSaid'. A law counts once. -/
mutual
def uptoBulk {H : Type} : DataW H → Nat
  | .lit (.string bytes) => bytes.length + 1
  | .lit _ => 1
  | .nil => 1
  | .ptr d => uptoBulk d + 1
  | .slice elems spare => uptoBulkAll elems + uptoBulkAll spare + 1
  | .agg parts => uptoBulkAll parts + 1
  | .iface _ d => uptoBulk d + 1
  | .map entries => uptoBulkEntries entries + 1
  | .held _ => 1
def uptoBulkAll {H : Type} : List (DataW H) → Nat
  | [] => 0
  | d :: r => uptoBulk d + uptoBulkAll r
def uptoBulkEntries {H : Type} : List (Lit × DataW H) → Nat
  | [] => 0
  | x :: r => uptoBulkEntry x + uptoBulkEntries r
def uptoBulkEntry {H : Type} : Lit × DataW H → Nat
  | (.string bytes, d) => bytes.length + uptoBulk d + 1
  | (_, d) => uptoBulk d + 1
 end
def uptoSmall : (H : Type) → List (DataW H) → Bool := fun _ ds => decide (uptoBulkAll ds ≤ 1048576)
def OpenSpec.upto (s : _root_.Go.ChangeSpec) : _root_.Go.OpenSpec := { _root_.Go.OpenSpec.ofChange s with cond := some uptoSmall }

/-- 'laws.FnExactConstants', WHERE WHAT IT READS IS OF BULK AT MOST 1048576: true; the input reads as it did. -/
def fnExactConstantsUptoRow : OpenClaim := { program := "ytgnjdbjipoacgaa", sum := "1bc303a9771b5c9716f31ff9ff5a4e9226207daf63c7015d6f3acbf6fb6f2e61", func := "loop.example/g00417/laws.FnExactConstants", spec := "fnExactConstants", apart := false, narrowed := true }
def FnExactConstantsUptoSaid : Prop := fnExactConstantsUptoRow.holds Try.pinned (OpenSpec.upto fnExactConstantsSpec)

/-- 'laws.FnExactIsBlank', WHERE WHAT IT READS IS OF BULK AT MOST 1048576: true; the input reads as it did. -/
def fnExactIsBlankUptoRow : OpenClaim := { program := "ytgnjdbjipoacgaa", sum := "1bc303a9771b5c9716f31ff9ff5a4e9226207daf63c7015d6f3acbf6fb6f2e61", func := "loop.example/g00417/laws.FnExactIsBlank", spec := "fnExactIsBlank", apart := false, narrowed := true }
def FnExactIsBlankUptoSaid : Prop := fnExactIsBlankUptoRow.holds Try.pinned (OpenSpec.upto fnExactIsBlankSpec)

/-- 'laws.FnExactNatOk', WHERE WHAT IT READS IS OF BULK AT MOST 1048576: true; the input reads as it did. -/
def fnExactNatOkUptoRow : OpenClaim := { program := "ytgnjdbjipoacgaa", sum := "1bc303a9771b5c9716f31ff9ff5a4e9226207daf63c7015d6f3acbf6fb6f2e61", func := "loop.example/g00417/laws.FnExactNatOk", spec := "fnExactNatOk", apart := false, narrowed := true }
def FnExactNatOkUptoSaid : Prop := fnExactNatOkUptoRow.holds Try.pinned (OpenSpec.upto fnExactNatOkSpec)

/-- 'laws.FnExactRxHas', WHERE WHAT IT READS IS OF BULK AT MOST 1048576: true; the input reads as it did. -/
def fnExactRxHasUptoRow : OpenClaim := { program := "ytgnjdbjipoacgaa", sum := "1bc303a9771b5c9716f31ff9ff5a4e9226207daf63c7015d6f3acbf6fb6f2e61", func := "loop.example/g00417/laws.FnExactRxHas", spec := "fnExactRxHas", apart := false, narrowed := true }
def FnExactRxHasUptoSaid : Prop := fnExactRxHasUptoRow.holds Try.pinned (OpenSpec.upto fnExactRxHasSpec)

/-- 'laws.FnExactDecOk', WHERE WHAT IT READS IS OF BULK AT MOST 1048576: true; the input reads as it did. -/
def fnExactDecOkUptoRow : OpenClaim := { program := "ytgnjdbjipoacgaa", sum := "1bc303a9771b5c9716f31ff9ff5a4e9226207daf63c7015d6f3acbf6fb6f2e61", func := "loop.example/g00417/laws.FnExactDecOk", spec := "fnExactDecOk", apart := false, narrowed := true }
def FnExactDecOkUptoSaid : Prop := fnExactDecOkUptoRow.holds Try.pinned (OpenSpec.upto fnExactDecOkSpec)

/-- 'laws.FnExactDecNeg', WHERE WHAT IT READS IS OF BULK AT MOST 1048576: true; the input reads as it did. -/
def fnExactDecNegUptoRow : OpenClaim := { program := "ytgnjdbjipoacgaa", sum := "1bc303a9771b5c9716f31ff9ff5a4e9226207daf63c7015d6f3acbf6fb6f2e61", func := "loop.example/g00417/laws.FnExactDecNeg", spec := "fnExactDecNeg", apart := false, narrowed := true }
def FnExactDecNegUptoSaid : Prop := fnExactDecNegUptoRow.holds Try.pinned (OpenSpec.upto fnExactDecNegSpec)

end Rows
end Go.Proofs.Ytgnjdbjipoacgaa

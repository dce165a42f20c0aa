/-
  No cell of these rows narrows 'for every input' (looked for: loops, veiled, ifaces, maps, wideKeys, modest, calm, conditions, laid).
  DERIVED. THE GIVEN ROWS OF THIS SEAT. 12 by the template 'for every input the law returns true; each argument reads behind the call as it read before'; 0 by the template 'total and deterministic' (their statements: YtbjgmcmabhicnaaTotals.lean).
  GIVEN WITH THE SEED: the statements are not yours to turn. If you find one false, say at which input.
  Laid BY PROGRAM, IN A SANDBOX (cutbox-rows.mjs): the forced cells as the released guide's own fill.sh prints them over the translation ee87c08d2f9cb29b… (all of the seat's roots in one cut). By AI agents, Wed Nov 11 2026. No macro, syntax, notation, axiom, sorry.
-/
import Derived.Test.YtbjgmcmabhicnaaChecked
import GoSem.Claim
import GoSem.ClaimJoined
import GoSem.ClaimMapViews
import Derived.JoinedTies
import Derived.KernelRfl
namespace Go.Proofs.Ytbjgmcmabhicnaa
/- THE CELL 'sum', in the pinned program and in every row, IS THE sha256 OF THE DUMP (.gsa) THAT YtbjgmcmabhicnaaProg.lean LOADS. Nothing in Lean hashes anything: it is a label: what it is worth is what the hold of that sum in a sandbox is worth. -/
noncomputable def Try.pinned : Pinned := { name := "ytbjgmcmabhicnaa", sum := "ee87c08d2f9cb29bf5b124676357e9f326811f4e710ee2f7b2622c75e304bddd", checked := Try.checked }
namespace Rows
def none {H : Type} : Left H := { results := [], args := [] }

/-- 'laws.FnExactConstants': WHATEVER THE INPUT: true; the input reads as it did. -/
def fnExactConstantsSpec : ChangeSpec := { name := "fnExactConstants", fn := fun _ => fun
  | [] => { results := [.lit (.bool true)], args := [] }
  | _ => none }
def fnExactConstantsRow : OpenClaim := { program := "ytbjgmcmabhicnaa", sum := "ee87c08d2f9cb29bf5b124676357e9f326811f4e710ee2f7b2622c75e304bddd", func := "loop.example/g00511/laws.FnExactConstants", spec := "fnExactConstants", apart := false }
def FnExactConstantsSaid : Prop := fnExactConstantsRow.holds Try.pinned (OpenSpec.ofChange fnExactConstantsSpec)

/-- ITS FALSE NEIGHBOUR: 'it returns false'. Refute it at one input. -/
def fnExactConstantsWrong : ChangeSpec := { name := "fnExactConstants", fn := fun _ => fun
  | [] => { results := [.lit (.bool false)], args := [] }
  | _ => none }
def FnExactConstantsWrongFalsely : Prop := fnExactConstantsRow.holds Try.pinned (OpenSpec.ofChange fnExactConstantsWrong)

/-- 'laws.FnExactInRange': WHATEVER THE INPUT: true; the input reads as it did. -/
def fnExactInRangeSpec : ChangeSpec := { name := "fnExactInRange", fn := fun _ => fun
  | [d1, d2, d3] => { results := [.lit (.bool true)], args := [d1, d2, d3] }
  | _ => none }
def fnExactInRangeRow : OpenClaim := { program := "ytbjgmcmabhicnaa", sum := "ee87c08d2f9cb29bf5b124676357e9f326811f4e710ee2f7b2622c75e304bddd", func := "loop.example/g00511/laws.FnExactInRange", spec := "fnExactInRange", apart := false }
def FnExactInRangeSaid : Prop := fnExactInRangeRow.holds Try.pinned (OpenSpec.ofChange fnExactInRangeSpec)

/-- ITS FALSE NEIGHBOUR: 'it returns false'. Refute it at one input. -/
def fnExactInRangeWrong : ChangeSpec := { name := "fnExactInRange", fn := fun _ => fun
  | [d1, d2, d3] => { results := [.lit (.bool false)], args := [d1, d2, d3] }
  | _ => none }
def FnExactInRangeWrongFalsely : Prop := fnExactInRangeRow.holds Try.pinned (OpenSpec.ofChange fnExactInRangeWrong)

/-- 'laws.FnExactIsValidKey': WHATEVER THE INPUT: true; the input reads as it did. -/
def fnExactIsValidKeySpec : ChangeSpec := { name := "fnExactIsValidKey", fn := fun _ => fun
  | [d] => { results := [.lit (.bool true)], args := [d] }
  | _ => none }
def fnExactIsValidKeyRow : OpenClaim := { program := "ytbjgmcmabhicnaa", sum := "ee87c08d2f9cb29bf5b124676357e9f326811f4e710ee2f7b2622c75e304bddd", func := "loop.example/g00511/laws.FnExactIsValidKey", spec := "fnExactIsValidKey", apart := false }
def FnExactIsValidKeySaid : Prop := fnExactIsValidKeyRow.holds Try.pinned (OpenSpec.ofChange fnExactIsValidKeySpec)

/-- ITS FALSE NEIGHBOUR: 'it returns false'. Refute it at one input. -/
def fnExactIsValidKeyWrong : ChangeSpec := { name := "fnExactIsValidKey", fn := fun _ => fun
  | [d] => { results := [.lit (.bool false)], args := [d] }
  | _ => none }
def FnExactIsValidKeyWrongFalsely : Prop := fnExactIsValidKeyRow.holds Try.pinned (OpenSpec.ofChange fnExactIsValidKeyWrong)

/-- 'laws.FnExactMax': WHATEVER THE INPUT: true; the input reads as it did. -/
def fnExactMaxSpec : ChangeSpec := { name := "fnExactMax", fn := fun _ => fun
  | [d1, d2] => { results := [.lit (.bool true)], args := [d1, d2] }
  | _ => none }
def fnExactMaxRow : OpenClaim := { program := "ytbjgmcmabhicnaa", sum := "ee87c08d2f9cb29bf5b124676357e9f326811f4e710ee2f7b2622c75e304bddd", func := "loop.example/g00511/laws.FnExactMax", spec := "fnExactMax", apart := false }
def FnExactMaxSaid : Prop := fnExactMaxRow.holds Try.pinned (OpenSpec.ofChange fnExactMaxSpec)

/-- ITS FALSE NEIGHBOUR: 'it returns false'. Refute it at one input. -/
def fnExactMaxWrong : ChangeSpec := { name := "fnExactMax", fn := fun _ => fun
  | [d1, d2] => { results := [.lit (.bool false)], args := [d1, d2] }
  | _ => none }
def FnExactMaxWrongFalsely : Prop := fnExactMaxRow.holds Try.pinned (OpenSpec.ofChange fnExactMaxWrong)

/-- 'laws.FnExactMin': WHATEVER THE INPUT: true; the input reads as it did. -/
def fnExactMinSpec : ChangeSpec := { name := "fnExactMin", fn := fun _ => fun
  | [d1, d2] => { results := [.lit (.bool true)], args := [d1, d2] }
  | _ => none }
def fnExactMinRow : OpenClaim := { program := "ytbjgmcmabhicnaa", sum := "ee87c08d2f9cb29bf5b124676357e9f326811f4e710ee2f7b2622c75e304bddd", func := "loop.example/g00511/laws.FnExactMin", spec := "fnExactMin", apart := false }
def FnExactMinSaid : Prop := fnExactMinRow.holds Try.pinned (OpenSpec.ofChange fnExactMinSpec)

/-- ITS FALSE NEIGHBOUR: 'it returns false'. Refute it at one input. -/
def fnExactMinWrong : ChangeSpec := { name := "fnExactMin", fn := fun _ => fun
  | [d1, d2] => { results := [.lit (.bool false)], args := [d1, d2] }
  | _ => none }
def FnExactMinWrongFalsely : Prop := fnExactMinRow.holds Try.pinned (OpenSpec.ofChange fnExactMinWrong)

/-- 'laws.FnExactPuncturedLength': WHATEVER THE INPUT: true; the input reads as it did. -/
def fnExactPuncturedLengthSpec : ChangeSpec := { name := "fnExactPuncturedLength", fn := fun _ => fun
  | [d] => { results := [.lit (.bool true)], args := [d] }
  | _ => none }
def fnExactPuncturedLengthRow : OpenClaim := { program := "ytbjgmcmabhicnaa", sum := "ee87c08d2f9cb29bf5b124676357e9f326811f4e710ee2f7b2622c75e304bddd", func := "loop.example/g00511/laws.FnExactPuncturedLength", spec := "fnExactPuncturedLength", apart := false }
def FnExactPuncturedLengthSaid : Prop := fnExactPuncturedLengthRow.holds Try.pinned (OpenSpec.ofChange fnExactPuncturedLengthSpec)

/-- ITS FALSE NEIGHBOUR: 'it returns false'. Refute it at one input. -/
def fnExactPuncturedLengthWrong : ChangeSpec := { name := "fnExactPuncturedLength", fn := fun _ => fun
  | [d] => { results := [.lit (.bool false)], args := [d] }
  | _ => none }
def FnExactPuncturedLengthWrongFalsely : Prop := fnExactPuncturedLengthRow.holds Try.pinned (OpenSpec.ofChange fnExactPuncturedLengthWrong)

/-- 'laws.FnExactCeilDiv': WHATEVER THE INPUT: true; the input reads as it did. -/
def fnExactCeilDivSpec : ChangeSpec := { name := "fnExactCeilDiv", fn := fun _ => fun
  | [d1, d2] => { results := [.lit (.bool true)], args := [d1, d2] }
  | _ => none }
def fnExactCeilDivRow : OpenClaim := { program := "ytbjgmcmabhicnaa", sum := "ee87c08d2f9cb29bf5b124676357e9f326811f4e710ee2f7b2622c75e304bddd", func := "loop.example/g00511/laws.FnExactCeilDiv", spec := "fnExactCeilDiv", apart := false }
def FnExactCeilDivSaid : Prop := fnExactCeilDivRow.holds Try.pinned (OpenSpec.ofChange fnExactCeilDivSpec)

/-- ITS FALSE NEIGHBOUR: 'it returns false'. Refute it at one input. -/
def fnExactCeilDivWrong : ChangeSpec := { name := "fnExactCeilDiv", fn := fun _ => fun
  | [d1, d2] => { results := [.lit (.bool false)], args := [d1, d2] }
  | _ => none }
def FnExactCeilDivWrongFalsely : Prop := fnExactCeilDivRow.holds Try.pinned (OpenSpec.ofChange fnExactCeilDivWrong)

/-- 'laws.FnExactEncodedLength': WHATEVER THE INPUT: true; the input reads as it did. -/
def fnExactEncodedLengthSpec : ChangeSpec := { name := "fnExactEncodedLength", fn := fun _ => fun
  | [d] => { results := [.lit (.bool true)], args := [d] }
  | _ => none }
def fnExactEncodedLengthRow : OpenClaim := { program := "ytbjgmcmabhicnaa", sum := "ee87c08d2f9cb29bf5b124676357e9f326811f4e710ee2f7b2622c75e304bddd", func := "loop.example/g00511/laws.FnExactEncodedLength", spec := "fnExactEncodedLength", apart := false }
def FnExactEncodedLengthSaid : Prop := fnExactEncodedLengthRow.holds Try.pinned (OpenSpec.ofChange fnExactEncodedLengthSpec)

/-- ITS FALSE NEIGHBOUR: 'it returns false'. Refute it at one input. -/
def fnExactEncodedLengthWrong : ChangeSpec := { name := "fnExactEncodedLength", fn := fun _ => fun
  | [d] => { results := [.lit (.bool false)], args := [d] }
  | _ => none }
def FnExactEncodedLengthWrongFalsely : Prop := fnExactEncodedLengthRow.holds Try.pinned (OpenSpec.ofChange fnExactEncodedLengthWrong)

/-- 'laws.FnExactNextState': WHATEVER THE INPUT: true; the input reads as it did. -/
def fnExactNextStateSpec : ChangeSpec := { name := "fnExactNextState", fn := fun _ => fun
  | [d1, d2] => { results := [.lit (.bool true)], args := [d1, d2] }
  | _ => none }
def fnExactNextStateRow : OpenClaim := { program := "ytbjgmcmabhicnaa", sum := "ee87c08d2f9cb29bf5b124676357e9f326811f4e710ee2f7b2622c75e304bddd", func := "loop.example/g00511/laws.FnExactNextState", spec := "fnExactNextState", apart := false }
def FnExactNextStateSaid : Prop := fnExactNextStateRow.holds Try.pinned (OpenSpec.ofChange fnExactNextStateSpec)

/-- ITS FALSE NEIGHBOUR: 'it returns false'. Refute it at one input. -/
def fnExactNextStateWrong : ChangeSpec := { name := "fnExactNextState", fn := fun _ => fun
  | [d1, d2] => { results := [.lit (.bool false)], args := [d1, d2] }
  | _ => none }
def FnExactNextStateWrongFalsely : Prop := fnExactNextStateRow.holds Try.pinned (OpenSpec.ofChange fnExactNextStateWrong)

/-- 'laws.FnExactMod': WHATEVER THE INPUT: true; the input reads as it did. -/
def fnExactModSpec : ChangeSpec := { name := "fnExactMod", fn := fun _ => fun
  | [d1, d2] => { results := [.lit (.bool true)], args := [d1, d2] }
  | _ => none }
def fnExactModRow : OpenClaim := { program := "ytbjgmcmabhicnaa", sum := "ee87c08d2f9cb29bf5b124676357e9f326811f4e710ee2f7b2622c75e304bddd", func := "loop.example/g00511/laws.FnExactMod", spec := "fnExactMod", apart := false }
def FnExactModSaid : Prop := fnExactModRow.holds Try.pinned (OpenSpec.ofChange fnExactModSpec)

/-- ITS FALSE NEIGHBOUR: 'it returns false'. Refute it at one input. -/
def fnExactModWrong : ChangeSpec := { name := "fnExactMod", fn := fun _ => fun
  | [d1, d2] => { results := [.lit (.bool false)], args := [d1, d2] }
  | _ => none }
def FnExactModWrongFalsely : Prop := fnExactModRow.holds Try.pinned (OpenSpec.ofChange fnExactModWrong)

/-- 'laws.FnExactNextScramblerState': WHATEVER THE INPUT: true; the input reads as it did. -/
def fnExactNextScramblerStateSpec : ChangeSpec := { name := "fnExactNextScramblerState", fn := fun _ => fun
  | [d] => { results := [.lit (.bool true)], args := [d] }
  | _ => none }
def fnExactNextScramblerStateRow : OpenClaim := { program := "ytbjgmcmabhicnaa", sum := "ee87c08d2f9cb29bf5b124676357e9f326811f4e710ee2f7b2622c75e304bddd", func := "loop.example/g00511/laws.FnExactNextScramblerState", spec := "fnExactNextScramblerState", apart := false }
def FnExactNextScramblerStateSaid : Prop := fnExactNextScramblerStateRow.holds Try.pinned (OpenSpec.ofChange fnExactNextScramblerStateSpec)

/-- ITS FALSE NEIGHBOUR: 'it returns false'. Refute it at one input. -/
def fnExactNextScramblerStateWrong : ChangeSpec := { name := "fnExactNextScramblerState", fn := fun _ => fun
  | [d] => { results := [.lit (.bool false)], args := [d] }
  | _ => none }
def FnExactNextScramblerStateWrongFalsely : Prop := fnExactNextScramblerStateRow.holds Try.pinned (OpenSpec.ofChange fnExactNextScramblerStateWrong)

/-- 'laws.FnExactOutputPair': WHATEVER THE INPUT: true; the input reads as it did. -/
def fnExactOutputPairSpec : ChangeSpec := { name := "fnExactOutputPair", fn := fun _ => fun
  | [d1, d2] => { results := [.lit (.bool true)], args := [d1, d2] }
  | _ => none }
def fnExactOutputPairRow : OpenClaim := { program := "ytbjgmcmabhicnaa", sum := "ee87c08d2f9cb29bf5b124676357e9f326811f4e710ee2f7b2622c75e304bddd", func := "loop.example/g00511/laws.FnExactOutputPair", spec := "fnExactOutputPair", apart := false }
def FnExactOutputPairSaid : Prop := fnExactOutputPairRow.holds Try.pinned (OpenSpec.ofChange fnExactOutputPairSpec)

/-- ITS FALSE NEIGHBOUR: 'it returns false'. Refute it at one input. -/
def fnExactOutputPairWrong : ChangeSpec := { name := "fnExactOutputPair", fn := fun _ => fun
  | [d1, d2] => { results := [.lit (.bool false)], args := [d1, d2] }
  | _ => none }
def FnExactOutputPairWrongFalsely : Prop := fnExactOutputPairRow.holds Try.pinned (OpenSpec.ofChange fnExactOutputPairWrong)

/- THE SECOND FORM. 'bulk': how many values and letters a reading holds, each counted each time it is reached (what is shared counts as often as it is met; a slice's spare places count too). A statement '..UptoSaid' is the law's where the arguments, and the package variables that the reading takes, are together of bulk at most 1048576: NARROWER than '..Said'. Prove '..Said' where nothing that the law and all that it calls make is longer than what came in: it says more and counts as full. Else prove '..UptoSaid'. A law counts once. -/
mutual
def uptoBulk {H : Type} : DataW H → Nat
  | .lit (.string bytes) => bytes.length + 1
  | .lit _ => 1
  | .nil => 1
  | .ptr d => uptoBulk d + 1
  | .slice elems spare => uptoBulkAll elems + uptoBulkAll spare + 1
  | .agg parts => uptoBulkAll parts + 1
  | .iface _ d => uptoBulk d + 1
  | .map entries => uptoBulkEntries entries + 1
  | .held _ => 1
def uptoBulkAll {H : Type} : List (DataW H) → Nat
  | [] => 0
  | d :: r => uptoBulk d + uptoBulkAll r
def uptoBulkEntries {H : Type} : List (Lit × DataW H) → Nat
  | [] => 0
  | x :: r => uptoBulkEntry x + uptoBulkEntries r
def uptoBulkEntry {H : Type} : Lit × DataW H → Nat
  | (.string bytes, d) => bytes.length + uptoBulk d + 1
  | (_, d) => uptoBulk d + 1
 end
def uptoSmall : (H : Type) → List (DataW H) → Bool := fun _ ds => decide (uptoBulkAll ds ≤ 1048576)
def OpenSpec.upto (s : _root_.Go.ChangeSpec) : _root_.Go.OpenSpec := { _root_.Go.OpenSpec.ofChange s with cond := some uptoSmall }

/-- 'laws.FnExactConstants', WHERE WHAT IT READS IS OF BULK AT MOST 1048576: true; the input reads as it did. -/
def fnExactConstantsUptoRow : OpenClaim := { program := "ytbjgmcmabhicnaa", sum := "ee87c08d2f9cb29bf5b124676357e9f326811f4e710ee2f7b2622c75e304bddd", func := "loop.example/g00511/laws.FnExactConstants", spec := "fnExactConstants", apart := false, narrowed := true }
def FnExactConstantsUptoSaid : Prop := fnExactConstantsUptoRow.holds Try.pinned (OpenSpec.upto fnExactConstantsSpec)

/-- 'laws.FnExactInRange', WHERE WHAT IT READS IS OF BULK AT MOST 1048576: true; the input reads as it did. -/
def fnExactInRangeUptoRow : OpenClaim := { program := "ytbjgmcmabhicnaa", sum := "ee87c08d2f9cb29bf5b124676357e9f326811f4e710ee2f7b2622c75e304bddd", func := "loop.example/g00511/laws.FnExactInRange", spec := "fnExactInRange", apart := false, narrowed := true }
def FnExactInRangeUptoSaid : Prop := fnExactInRangeUptoRow.holds Try.pinned (OpenSpec.upto fnExactInRangeSpec)

/-- 'laws.FnExactIsValidKey', WHERE WHAT IT READS IS OF BULK AT MOST 1048576: true; the input reads as it did. -/
def fnExactIsValidKeyUptoRow : OpenClaim := { program := "ytbjgmcmabhicnaa", sum := "ee87c08d2f9cb29bf5b124676357e9f326811f4e710ee2f7b2622c75e304bddd", func := "loop.example/g00511/laws.FnExactIsValidKey", spec := "fnExactIsValidKey", apart := false, narrowed := true }
def FnExactIsValidKeyUptoSaid : Prop := fnExactIsValidKeyUptoRow.holds Try.pinned (OpenSpec.upto fnExactIsValidKeySpec)

/-- 'laws.FnExactMax', WHERE WHAT IT READS IS OF BULK AT MOST 1048576: true; the input reads as it did. -/
def fnExactMaxUptoRow : OpenClaim := { program := "ytbjgmcmabhicnaa", sum := "ee87c08d2f9cb29bf5b124676357e9f326811f4e710ee2f7b2622c75e304bddd", func := "loop.example/g00511/laws.FnExactMax", spec := "fnExactMax", apart := false, narrowed := true }
def FnExactMaxUptoSaid : Prop := fnExactMaxUptoRow.holds Try.pinned (OpenSpec.upto fnExactMaxSpec)

/-- 'laws.FnExactMin', WHERE WHAT IT READS IS OF BULK AT MOST 1048576: true; the input reads as it did. -/
def fnExactMinUptoRow : OpenClaim := { program := "ytbjgmcmabhicnaa", sum := "ee87c08d2f9cb29bf5b124676357e9f326811f4e710ee2f7b2622c75e304bddd", func := "loop.example/g00511/laws.FnExactMin", spec := "fnExactMin", apart := false, narrowed := true }
def FnExactMinUptoSaid : Prop := fnExactMinUptoRow.holds Try.pinned (OpenSpec.upto fnExactMinSpec)

/-- 'laws.FnExactPuncturedLength', WHERE WHAT IT READS IS OF BULK AT MOST 1048576: true; the input reads as it did. -/
def fnExactPuncturedLengthUptoRow : OpenClaim := { program := "ytbjgmcmabhicnaa", sum := "ee87c08d2f9cb29bf5b124676357e9f326811f4e710ee2f7b2622c75e304bddd", func := "loop.example/g00511/laws.FnExactPuncturedLength", spec := "fnExactPuncturedLength", apart := false, narrowed := true }
def FnExactPuncturedLengthUptoSaid : Prop := fnExactPuncturedLengthUptoRow.holds Try.pinned (OpenSpec.upto fnExactPuncturedLengthSpec)

/-- 'laws.FnExactCeilDiv', WHERE WHAT IT READS IS OF BULK AT MOST 1048576: true; the input reads as it did. -/
def fnExactCeilDivUptoRow : OpenClaim := { program := "ytbjgmcmabhicnaa", sum := "ee87c08d2f9cb29bf5b124676357e9f326811f4e710ee2f7b2622c75e304bddd", func := "loop.example/g00511/laws.FnExactCeilDiv", spec := "fnExactCeilDiv", apart := false, narrowed := true }
def FnExactCeilDivUptoSaid : Prop := fnExactCeilDivUptoRow.holds Try.pinned (OpenSpec.upto fnExactCeilDivSpec)

/-- 'laws.FnExactEncodedLength', WHERE WHAT IT READS IS OF BULK AT MOST 1048576: true; the input reads as it did. -/
def fnExactEncodedLengthUptoRow : OpenClaim := { program := "ytbjgmcmabhicnaa", sum := "ee87c08d2f9cb29bf5b124676357e9f326811f4e710ee2f7b2622c75e304bddd", func := "loop.example/g00511/laws.FnExactEncodedLength", spec := "fnExactEncodedLength", apart := false, narrowed := true }
def FnExactEncodedLengthUptoSaid : Prop := fnExactEncodedLengthUptoRow.holds Try.pinned (OpenSpec.upto fnExactEncodedLengthSpec)

/-- 'laws.FnExactNextState', WHERE WHAT IT READS IS OF BULK AT MOST 1048576: true; the input reads as it did. -/
def fnExactNextStateUptoRow : OpenClaim := { program := "ytbjgmcmabhicnaa", sum := "ee87c08d2f9cb29bf5b124676357e9f326811f4e710ee2f7b2622c75e304bddd", func := "loop.example/g00511/laws.FnExactNextState", spec := "fnExactNextState", apart := false, narrowed := true }
def FnExactNextStateUptoSaid : Prop := fnExactNextStateUptoRow.holds Try.pinned (OpenSpec.upto fnExactNextStateSpec)

/-- 'laws.FnExactMod', WHERE WHAT IT READS IS OF BULK AT MOST 1048576: true; the input reads as it did. -/
def fnExactModUptoRow : OpenClaim := { program := "ytbjgmcmabhicnaa", sum := "ee87c08d2f9cb29bf5b124676357e9f326811f4e710ee2f7b2622c75e304bddd", func := "loop.example/g00511/laws.FnExactMod", spec := "fnExactMod", apart := false, narrowed := true }
def FnExactModUptoSaid : Prop := fnExactModUptoRow.holds Try.pinned (OpenSpec.upto fnExactModSpec)

/-- 'laws.FnExactNextScramblerState', WHERE WHAT IT READS IS OF BULK AT MOST 1048576: true; the input reads as it did. -/
def fnExactNextScramblerStateUptoRow : OpenClaim := { program := "ytbjgmcmabhicnaa", sum := "ee87c08d2f9cb29bf5b124676357e9f326811f4e710ee2f7b2622c75e304bddd", func := "loop.example/g00511/laws.FnExactNextScramblerState", spec := "fnExactNextScramblerState", apart := false, narrowed := true }
def FnExactNextScramblerStateUptoSaid : Prop := fnExactNextScramblerStateUptoRow.holds Try.pinned (OpenSpec.upto fnExactNextScramblerStateSpec)

/-- 'laws.FnExactOutputPair', WHERE WHAT IT READS IS OF BULK AT MOST 1048576: true; the input reads as it did. -/
def fnExactOutputPairUptoRow : OpenClaim := { program := "ytbjgmcmabhicnaa", sum := "ee87c08d2f9cb29bf5b124676357e9f326811f4e710ee2f7b2622c75e304bddd", func := "loop.example/g00511/laws.FnExactOutputPair", spec := "fnExactOutputPair", apart := false, narrowed := true }
def FnExactOutputPairUptoSaid : Prop := fnExactOutputPairUptoRow.holds Try.pinned (OpenSpec.upto fnExactOutputPairSpec)

end Rows
end Go.Proofs.Ytbjgmcmabhicnaa

/-
  No cell of these rows narrows 'for every input' (looked for: loops, veiled, ifaces, maps, wideKeys, modest, calm, conditions, laid).
  DERIVED. THE GIVEN ROWS OF THIS SEAT. 12 by the template 'for every input the law returns true; each argument reads behind the call as it read before'; 0 by the template 'total and deterministic' (their statements: YtgeodanhjglkhaaTotals.lean).
  GIVEN WITH THE SEED: the statements are not yours to turn. If you find one false, say at which input.
  Laid BY PROGRAM, IN A SANDBOX (cutbox-rows.mjs): the forced cells as the released guide's own fill.sh prints them over the translation 2033e985e1ccce92… (all of the seat's roots in one cut). By AI agents, Wed Nov 11 2026. No macro, syntax, notation, axiom, sorry.
-/
import Derived.Test.YtgeodanhjglkhaaChecked
import GoSem.Claim
import GoSem.ClaimJoined
import GoSem.ClaimMapViews
import Derived.JoinedTies
import Derived.KernelRfl
namespace Go.Proofs.Ytgeodanhjglkhaa
/- THE CELL 'sum', in the pinned program and in every row, IS THE sha256 OF THE DUMP (.gsa) THAT YtgeodanhjglkhaaProg.lean LOADS. Nothing in Lean hashes anything: it is a label: what it is worth is what the hold of that sum in a sandbox is worth. -/
noncomputable def Try.pinned : Pinned := { name := "ytgeodanhjglkhaa", sum := "2033e985e1ccce92dc756c8155899c1f178d71f777b0cf635176a571a5984d46", checked := Try.checked }
namespace Rows
def none {H : Type} : Left H := { results := [], args := [] }

/-- 'laws.FnExactEqualBytes': WHATEVER THE INPUT: true; the input reads as it did. -/
def fnExactEqualBytesSpec : ChangeSpec := { name := "fnExactEqualBytes", fn := fun _ => fun
  | [d1, d2] => { results := [.lit (.bool true)], args := [d1, d2] }
  | _ => none }
def fnExactEqualBytesRow : OpenClaim := { program := "ytgeodanhjglkhaa", sum := "2033e985e1ccce92dc756c8155899c1f178d71f777b0cf635176a571a5984d46", func := "loop.example/g00511/laws.FnExactEqualBytes", spec := "fnExactEqualBytes", apart := false }
def FnExactEqualBytesSaid : Prop := fnExactEqualBytesRow.holds Try.pinned (OpenSpec.ofChange fnExactEqualBytesSpec)

/-- ITS FALSE NEIGHBOUR: 'it returns false'. Refute it at one input. -/
def fnExactEqualBytesWrong : ChangeSpec := { name := "fnExactEqualBytes", fn := fun _ => fun
  | [d1, d2] => { results := [.lit (.bool false)], args := [d1, d2] }
  | _ => none }
def FnExactEqualBytesWrongFalsely : Prop := fnExactEqualBytesRow.holds Try.pinned (OpenSpec.ofChange fnExactEqualBytesWrong)

/-- 'laws.FnExactIsBitString': WHATEVER THE INPUT: true; the input reads as it did. -/
def fnExactIsBitStringSpec : ChangeSpec := { name := "fnExactIsBitString", fn := fun _ => fun
  | [d] => { results := [.lit (.bool true)], args := [d] }
  | _ => none }
def fnExactIsBitStringRow : OpenClaim := { program := "ytgeodanhjglkhaa", sum := "2033e985e1ccce92dc756c8155899c1f178d71f777b0cf635176a571a5984d46", func := "loop.example/g00511/laws.FnExactIsBitString", spec := "fnExactIsBitString", apart := false }
def FnExactIsBitStringSaid : Prop := fnExactIsBitStringRow.holds Try.pinned (OpenSpec.ofChange fnExactIsBitStringSpec)

/-- ITS FALSE NEIGHBOUR: 'it returns false'. Refute it at one input. -/
def fnExactIsBitStringWrong : ChangeSpec := { name := "fnExactIsBitString", fn := fun _ => fun
  | [d] => { results := [.lit (.bool false)], args := [d] }
  | _ => none }
def FnExactIsBitStringWrongFalsely : Prop := fnExactIsBitStringRow.holds Try.pinned (OpenSpec.ofChange fnExactIsBitStringWrong)

/-- 'laws.FnExactIsSymbolString': WHATEVER THE INPUT: true; the input reads as it did. -/
def fnExactIsSymbolStringSpec : ChangeSpec := { name := "fnExactIsSymbolString", fn := fun _ => fun
  | [d] => { results := [.lit (.bool true)], args := [d] }
  | _ => none }
def fnExactIsSymbolStringRow : OpenClaim := { program := "ytgeodanhjglkhaa", sum := "2033e985e1ccce92dc756c8155899c1f178d71f777b0cf635176a571a5984d46", func := "loop.example/g00511/laws.FnExactIsSymbolString", spec := "fnExactIsSymbolString", apart := false }
def FnExactIsSymbolStringSaid : Prop := fnExactIsSymbolStringRow.holds Try.pinned (OpenSpec.ofChange fnExactIsSymbolStringSpec)

/-- ITS FALSE NEIGHBOUR: 'it returns false'. Refute it at one input. -/
def fnExactIsSymbolStringWrong : ChangeSpec := { name := "fnExactIsSymbolString", fn := fun _ => fun
  | [d] => { results := [.lit (.bool false)], args := [d] }
  | _ => none }
def FnExactIsSymbolStringWrongFalsely : Prop := fnExactIsSymbolStringRow.holds Try.pinned (OpenSpec.ofChange fnExactIsSymbolStringWrong)

/-- 'laws.FnExactWeight': WHATEVER THE INPUT: true; the input reads as it did. -/
def fnExactWeightSpec : ChangeSpec := { name := "fnExactWeight", fn := fun _ => fun
  | [d] => { results := [.lit (.bool true)], args := [d] }
  | _ => none }
def fnExactWeightRow : OpenClaim := { program := "ytgeodanhjglkhaa", sum := "2033e985e1ccce92dc756c8155899c1f178d71f777b0cf635176a571a5984d46", func := "loop.example/g00511/laws.FnExactWeight", spec := "fnExactWeight", apart := false }
def FnExactWeightSaid : Prop := fnExactWeightRow.holds Try.pinned (OpenSpec.ofChange fnExactWeightSpec)

/-- ITS FALSE NEIGHBOUR: 'it returns false'. Refute it at one input. -/
def fnExactWeightWrong : ChangeSpec := { name := "fnExactWeight", fn := fun _ => fun
  | [d] => { results := [.lit (.bool false)], args := [d] }
  | _ => none }
def FnExactWeightWrongFalsely : Prop := fnExactWeightRow.holds Try.pinned (OpenSpec.ofChange fnExactWeightWrong)

/-- 'laws.FnExactScramblerStateAfter': WHATEVER THE INPUT: true; the input reads as it did. -/
def fnExactScramblerStateAfterSpec : ChangeSpec := { name := "fnExactScramblerStateAfter", fn := fun _ => fun
  | [d1, d2] => { results := [.lit (.bool true)], args := [d1, d2] }
  | _ => none }
def fnExactScramblerStateAfterRow : OpenClaim := { program := "ytgeodanhjglkhaa", sum := "2033e985e1ccce92dc756c8155899c1f178d71f777b0cf635176a571a5984d46", func := "loop.example/g00511/laws.FnExactScramblerStateAfter", spec := "fnExactScramblerStateAfter", apart := false }
def FnExactScramblerStateAfterSaid : Prop := fnExactScramblerStateAfterRow.holds Try.pinned (OpenSpec.ofChange fnExactScramblerStateAfterSpec)

/-- ITS FALSE NEIGHBOUR: 'it returns false'. Refute it at one input. -/
def fnExactScramblerStateAfterWrong : ChangeSpec := { name := "fnExactScramblerStateAfter", fn := fun _ => fun
  | [d1, d2] => { results := [.lit (.bool false)], args := [d1, d2] }
  | _ => none }
def FnExactScramblerStateAfterWrongFalsely : Prop := fnExactScramblerStateAfterRow.holds Try.pinned (OpenSpec.ofChange fnExactScramblerStateAfterWrong)

/-- 'laws.FnExactEqualInts': WHATEVER THE INPUT: true; the input reads as it did. -/
def fnExactEqualIntsSpec : ChangeSpec := { name := "fnExactEqualInts", fn := fun _ => fun
  | [d1, d2] => { results := [.lit (.bool true)], args := [d1, d2] }
  | _ => none }
def fnExactEqualIntsRow : OpenClaim := { program := "ytgeodanhjglkhaa", sum := "2033e985e1ccce92dc756c8155899c1f178d71f777b0cf635176a571a5984d46", func := "loop.example/g00511/laws.FnExactEqualInts", spec := "fnExactEqualInts", apart := false }
def FnExactEqualIntsSaid : Prop := fnExactEqualIntsRow.holds Try.pinned (OpenSpec.ofChange fnExactEqualIntsSpec)

/-- ITS FALSE NEIGHBOUR: 'it returns false'. Refute it at one input. -/
def fnExactEqualIntsWrong : ChangeSpec := { name := "fnExactEqualInts", fn := fun _ => fun
  | [d1, d2] => { results := [.lit (.bool false)], args := [d1, d2] }
  | _ => none }
def FnExactEqualIntsWrongFalsely : Prop := fnExactEqualIntsRow.holds Try.pinned (OpenSpec.ofChange fnExactEqualIntsWrong)

/-- 'laws.FnExactParity': WHATEVER THE INPUT: true; the input reads as it did. -/
def fnExactParitySpec : ChangeSpec := { name := "fnExactParity", fn := fun _ => fun
  | [d] => { results := [.lit (.bool true)], args := [d] }
  | _ => none }
def fnExactParityRow : OpenClaim := { program := "ytgeodanhjglkhaa", sum := "2033e985e1ccce92dc756c8155899c1f178d71f777b0cf635176a571a5984d46", func := "loop.example/g00511/laws.FnExactParity", spec := "fnExactParity", apart := false }
def FnExactParitySaid : Prop := fnExactParityRow.holds Try.pinned (OpenSpec.ofChange fnExactParitySpec)

/-- ITS FALSE NEIGHBOUR: 'it returns false'. Refute it at one input. -/
def fnExactParityWrong : ChangeSpec := { name := "fnExactParity", fn := fun _ => fun
  | [d] => { results := [.lit (.bool false)], args := [d] }
  | _ => none }
def FnExactParityWrongFalsely : Prop := fnExactParityRow.holds Try.pinned (OpenSpec.ofChange fnExactParityWrong)

/-- 'laws.FnExactCrc16': WHATEVER THE INPUT: true; the input reads as it did. -/
def fnExactCrc16Spec : ChangeSpec := { name := "fnExactCrc16", fn := fun _ => fun
  | [d] => { results := [.lit (.bool true)], args := [d] }
  | _ => none }
def fnExactCrc16Row : OpenClaim := { program := "ytgeodanhjglkhaa", sum := "2033e985e1ccce92dc756c8155899c1f178d71f777b0cf635176a571a5984d46", func := "loop.example/g00511/laws.FnExactCrc16", spec := "fnExactCrc16", apart := false }
def FnExactCrc16Said : Prop := fnExactCrc16Row.holds Try.pinned (OpenSpec.ofChange fnExactCrc16Spec)

/-- ITS FALSE NEIGHBOUR: 'it returns false'. Refute it at one input. -/
def fnExactCrc16Wrong : ChangeSpec := { name := "fnExactCrc16", fn := fun _ => fun
  | [d] => { results := [.lit (.bool false)], args := [d] }
  | _ => none }
def FnExactCrc16WrongFalsely : Prop := fnExactCrc16Row.holds Try.pinned (OpenSpec.ofChange fnExactCrc16Wrong)

/-- 'laws.FnExactHash': WHATEVER THE INPUT: true; the input reads as it did. -/
def fnExactHashSpec : ChangeSpec := { name := "fnExactHash", fn := fun _ => fun
  | [d] => { results := [.lit (.bool true)], args := [d] }
  | _ => none }
def fnExactHashRow : OpenClaim := { program := "ytgeodanhjglkhaa", sum := "2033e985e1ccce92dc756c8155899c1f178d71f777b0cf635176a571a5984d46", func := "loop.example/g00511/laws.FnExactHash", spec := "fnExactHash", apart := false }
def FnExactHashSaid : Prop := fnExactHashRow.holds Try.pinned (OpenSpec.ofChange fnExactHashSpec)

/-- ITS FALSE NEIGHBOUR: 'it returns false'. Refute it at one input. -/
def fnExactHashWrong : ChangeSpec := { name := "fnExactHash", fn := fun _ => fun
  | [d] => { results := [.lit (.bool false)], args := [d] }
  | _ => none }
def FnExactHashWrongFalsely : Prop := fnExactHashRow.holds Try.pinned (OpenSpec.ofChange fnExactHashWrong)

/-- 'laws.FnExactKeyedHash': WHATEVER THE INPUT: true; the input reads as it did. -/
def fnExactKeyedHashSpec : ChangeSpec := { name := "fnExactKeyedHash", fn := fun _ => fun
  | [d1, d2] => { results := [.lit (.bool true)], args := [d1, d2] }
  | _ => none }
def fnExactKeyedHashRow : OpenClaim := { program := "ytgeodanhjglkhaa", sum := "2033e985e1ccce92dc756c8155899c1f178d71f777b0cf635176a571a5984d46", func := "loop.example/g00511/laws.FnExactKeyedHash", spec := "fnExactKeyedHash", apart := false }
def FnExactKeyedHashSaid : Prop := fnExactKeyedHashRow.holds Try.pinned (OpenSpec.ofChange fnExactKeyedHashSpec)

/-- ITS FALSE NEIGHBOUR: 'it returns false'. Refute it at one input. -/
def fnExactKeyedHashWrong : ChangeSpec := { name := "fnExactKeyedHash", fn := fun _ => fun
  | [d1, d2] => { results := [.lit (.bool false)], args := [d1, d2] }
  | _ => none }
def FnExactKeyedHashWrongFalsely : Prop := fnExactKeyedHashRow.holds Try.pinned (OpenSpec.ofChange fnExactKeyedHashWrong)

/-- 'laws.FnExactLongestRun': WHATEVER THE INPUT: true; the input reads as it did. -/
def fnExactLongestRunSpec : ChangeSpec := { name := "fnExactLongestRun", fn := fun _ => fun
  | [d] => { results := [.lit (.bool true)], args := [d] }
  | _ => none }
def fnExactLongestRunRow : OpenClaim := { program := "ytgeodanhjglkhaa", sum := "2033e985e1ccce92dc756c8155899c1f178d71f777b0cf635176a571a5984d46", func := "loop.example/g00511/laws.FnExactLongestRun", spec := "fnExactLongestRun", apart := false }
def FnExactLongestRunSaid : Prop := fnExactLongestRunRow.holds Try.pinned (OpenSpec.ofChange fnExactLongestRunSpec)

/-- ITS FALSE NEIGHBOUR: 'it returns false'. Refute it at one input. -/
def fnExactLongestRunWrong : ChangeSpec := { name := "fnExactLongestRun", fn := fun _ => fun
  | [d] => { results := [.lit (.bool false)], args := [d] }
  | _ => none }
def FnExactLongestRunWrongFalsely : Prop := fnExactLongestRunRow.holds Try.pinned (OpenSpec.ofChange fnExactLongestRunWrong)

/-- 'laws.FnExactHammingDistance': WHATEVER THE INPUT: true; the input reads as it did. -/
def fnExactHammingDistanceSpec : ChangeSpec := { name := "fnExactHammingDistance", fn := fun _ => fun
  | [d1, d2] => { results := [.lit (.bool true)], args := [d1, d2] }
  | _ => none }
def fnExactHammingDistanceRow : OpenClaim := { program := "ytgeodanhjglkhaa", sum := "2033e985e1ccce92dc756c8155899c1f178d71f777b0cf635176a571a5984d46", func := "loop.example/g00511/laws.FnExactHammingDistance", spec := "fnExactHammingDistance", apart := false }
def FnExactHammingDistanceSaid : Prop := fnExactHammingDistanceRow.holds Try.pinned (OpenSpec.ofChange fnExactHammingDistanceSpec)

/-- ITS FALSE NEIGHBOUR: 'it returns false'. Refute it at one input. -/
def fnExactHammingDistanceWrong : ChangeSpec := { name := "fnExactHammingDistance", fn := fun _ => fun
  | [d1, d2] => { results := [.lit (.bool false)], args := [d1, d2] }
  | _ => none }
def FnExactHammingDistanceWrongFalsely : Prop := fnExactHammingDistanceRow.holds Try.pinned (OpenSpec.ofChange fnExactHammingDistanceWrong)

/- THE SECOND FORM. 'bulk': how many values and letters a reading holds, each counted each time it is reached (what is shared counts as often as it is met; a slice's spare places count too). A statement '..UptoSaid' is the law's where the arguments, and the package variables that the reading takes, are together of bulk at most 1048576: NARROWER than '..Said'. Prove '..Said' where nothing that the law and all that it calls make is longer than what came in: it says more and counts as full. Else prove '..UptoSaid'. A law counts once. -/
mutual
def uptoBulk {H : Type} : DataW H → Nat
  | .lit (.string bytes) => bytes.length + 1
  | .lit _ => 1
  | .nil => 1
  | .ptr d => uptoBulk d + 1
  | .slice elems spare => uptoBulkAll elems + uptoBulkAll spare + 1
  | .agg parts => uptoBulkAll parts + 1
  | .iface _ d => uptoBulk d + 1
  | .map entries => uptoBulkEntries entries + 1
  | .held _ => 1
def uptoBulkAll {H : Type} : List (DataW H) → Nat
  | [] => 0
  | d :: r => uptoBulk d + uptoBulkAll r
def uptoBulkEntries {H : Type} : List (Lit × DataW H) → Nat
  | [] => 0
  | x :: r => uptoBulkEntry x + uptoBulkEntries r
def uptoBulkEntry {H : Type} : Lit × DataW H → Nat
  | (.string bytes, d) => bytes.length + uptoBulk d + 1
  | (_, d) => uptoBulk d + 1
 end
def uptoSmall : (H : Type) → List (DataW H) → Bool := fun _ ds => decide (uptoBulkAll ds ≤ 1048576)
def OpenSpec.upto (s : _root_.Go.ChangeSpec) : _root_.Go.OpenSpec := { _root_.Go.OpenSpec.ofChange s with cond := some uptoSmall }

/-- 'laws.FnExactEqualBytes', WHERE WHAT IT READS IS OF BULK AT MOST 1048576: true; the input reads as it did. -/
def fnExactEqualBytesUptoRow : OpenClaim := { program := "ytgeodanhjglkhaa", sum := "2033e985e1ccce92dc756c8155899c1f178d71f777b0cf635176a571a5984d46", func := "loop.example/g00511/laws.FnExactEqualBytes", spec := "fnExactEqualBytes", apart := false, narrowed := true }
def FnExactEqualBytesUptoSaid : Prop := fnExactEqualBytesUptoRow.holds Try.pinned (OpenSpec.upto fnExactEqualBytesSpec)

/-- 'laws.FnExactIsBitString', WHERE WHAT IT READS IS OF BULK AT MOST 1048576: true; the input reads as it did. -/
def fnExactIsBitStringUptoRow : OpenClaim := { program := "ytgeodanhjglkhaa", sum := "2033e985e1ccce92dc756c8155899c1f178d71f777b0cf635176a571a5984d46", func := "loop.example/g00511/laws.FnExactIsBitString", spec := "fnExactIsBitString", apart := false, narrowed := true }
def FnExactIsBitStringUptoSaid : Prop := fnExactIsBitStringUptoRow.holds Try.pinned (OpenSpec.upto fnExactIsBitStringSpec)

/-- 'laws.FnExactIsSymbolString', WHERE WHAT IT READS IS OF BULK AT MOST 1048576: true; the input reads as it did. -/
def fnExactIsSymbolStringUptoRow : OpenClaim := { program := "ytgeodanhjglkhaa", sum := "2033e985e1ccce92dc756c8155899c1f178d71f777b0cf635176a571a5984d46", func := "loop.example/g00511/laws.FnExactIsSymbolString", spec := "fnExactIsSymbolString", apart := false, narrowed := true }
def FnExactIsSymbolStringUptoSaid : Prop := fnExactIsSymbolStringUptoRow.holds Try.pinned (OpenSpec.upto fnExactIsSymbolStringSpec)

/-- 'laws.FnExactWeight', WHERE WHAT IT READS IS OF BULK AT MOST 1048576: true; the input reads as it did. -/
def fnExactWeightUptoRow : OpenClaim := { program := "ytgeodanhjglkhaa", sum := "2033e985e1ccce92dc756c8155899c1f178d71f777b0cf635176a571a5984d46", func := "loop.example/g00511/laws.FnExactWeight", spec := "fnExactWeight", apart := false, narrowed := true }
def FnExactWeightUptoSaid : Prop := fnExactWeightUptoRow.holds Try.pinned (OpenSpec.upto fnExactWeightSpec)

/-- 'laws.FnExactScramblerStateAfter', WHERE WHAT IT READS IS OF BULK AT MOST 1048576: true; the input reads as it did. -/
def fnExactScramblerStateAfterUptoRow : OpenClaim := { program := "ytgeodanhjglkhaa", sum := "2033e985e1ccce92dc756c8155899c1f178d71f777b0cf635176a571a5984d46", func := "loop.example/g00511/laws.FnExactScramblerStateAfter", spec := "fnExactScramblerStateAfter", apart := false, narrowed := true }
def FnExactScramblerStateAfterUptoSaid : Prop := fnExactScramblerStateAfterUptoRow.holds Try.pinned (OpenSpec.upto fnExactScramblerStateAfterSpec)

/-- 'laws.FnExactEqualInts', WHERE WHAT IT READS IS OF BULK AT MOST 1048576: true; the input reads as it did. -/
def fnExactEqualIntsUptoRow : OpenClaim := { program := "ytgeodanhjglkhaa", sum := "2033e985e1ccce92dc756c8155899c1f178d71f777b0cf635176a571a5984d46", func := "loop.example/g00511/laws.FnExactEqualInts", spec := "fnExactEqualInts", apart := false, narrowed := true }
def FnExactEqualIntsUptoSaid : Prop := fnExactEqualIntsUptoRow.holds Try.pinned (OpenSpec.upto fnExactEqualIntsSpec)

/-- 'laws.FnExactParity', WHERE WHAT IT READS IS OF BULK AT MOST 1048576: true; the input reads as it did. -/
def fnExactParityUptoRow : OpenClaim := { program := "ytgeodanhjglkhaa", sum := "2033e985e1ccce92dc756c8155899c1f178d71f777b0cf635176a571a5984d46", func := "loop.example/g00511/laws.FnExactParity", spec := "fnExactParity", apart := false, narrowed := true }
def FnExactParityUptoSaid : Prop := fnExactParityUptoRow.holds Try.pinned (OpenSpec.upto fnExactParitySpec)

/-- 'laws.FnExactCrc16', WHERE WHAT IT READS IS OF BULK AT MOST 1048576: true; the input reads as it did. -/
def fnExactCrc16UptoRow : OpenClaim := { program := "ytgeodanhjglkhaa", sum := "2033e985e1ccce92dc756c8155899c1f178d71f777b0cf635176a571a5984d46", func := "loop.example/g00511/laws.FnExactCrc16", spec := "fnExactCrc16", apart := false, narrowed := true }
def FnExactCrc16UptoSaid : Prop := fnExactCrc16UptoRow.holds Try.pinned (OpenSpec.upto fnExactCrc16Spec)

/-- 'laws.FnExactHash', WHERE WHAT IT READS IS OF BULK AT MOST 1048576: true; the input reads as it did. -/
def fnExactHashUptoRow : OpenClaim := { program := "ytgeodanhjglkhaa", sum := "2033e985e1ccce92dc756c8155899c1f178d71f777b0cf635176a571a5984d46", func := "loop.example/g00511/laws.FnExactHash", spec := "fnExactHash", apart := false, narrowed := true }
def FnExactHashUptoSaid : Prop := fnExactHashUptoRow.holds Try.pinned (OpenSpec.upto fnExactHashSpec)

/-- 'laws.FnExactKeyedHash', WHERE WHAT IT READS IS OF BULK AT MOST 1048576: true; the input reads as it did. -/
def fnExactKeyedHashUptoRow : OpenClaim := { program := "ytgeodanhjglkhaa", sum := "2033e985e1ccce92dc756c8155899c1f178d71f777b0cf635176a571a5984d46", func := "loop.example/g00511/laws.FnExactKeyedHash", spec := "fnExactKeyedHash", apart := false, narrowed := true }
def FnExactKeyedHashUptoSaid : Prop := fnExactKeyedHashUptoRow.holds Try.pinned (OpenSpec.upto fnExactKeyedHashSpec)

/-- 'laws.FnExactLongestRun', WHERE WHAT IT READS IS OF BULK AT MOST 1048576: true; the input reads as it did. -/
def fnExactLongestRunUptoRow : OpenClaim := { program := "ytgeodanhjglkhaa", sum := "2033e985e1ccce92dc756c8155899c1f178d71f777b0cf635176a571a5984d46", func := "loop.example/g00511/laws.FnExactLongestRun", spec := "fnExactLongestRun", apart := false, narrowed := true }
def FnExactLongestRunUptoSaid : Prop := fnExactLongestRunUptoRow.holds Try.pinned (OpenSpec.upto fnExactLongestRunSpec)

/-- 'laws.FnExactHammingDistance', WHERE WHAT IT READS IS OF BULK AT MOST 1048576: true; the input reads as it did. -/
def fnExactHammingDistanceUptoRow : OpenClaim := { program := "ytgeodanhjglkhaa", sum := "2033e985e1ccce92dc756c8155899c1f178d71f777b0cf635176a571a5984d46", func := "loop.example/g00511/laws.FnExactHammingDistance", spec := "fnExactHammingDistance", apart := false, narrowed := true }
def FnExactHammingDistanceUptoSaid : Prop := fnExactHammingDistanceUptoRow.holds Try.pinned (OpenSpec.upto fnExactHammingDistanceSpec)

end Rows
end Go.Proofs.Ytgeodanhjglkhaa

/-
  No cell of these rows narrows 'for every input' (looked for: loops, veiled, ifaces, maps, wideKeys, modest, calm, conditions, laid).
  DERIVED. THE GIVEN ROWS OF THIS SEAT. 8 by the template 'for every input the law returns true; each argument reads behind the call as it read before'; 0 by the template 'total and deterministic' (their statements: YtjnpdepgmgdhdaaTotals.lean).
  GIVEN WITH THE SEED: the statements are not yours to turn. If you find one false, say at which input.
  Laid BY PROGRAM, IN A SANDBOX (cutbox-rows.mjs): the forced cells as the released guide's own fill.sh prints them over the translation 2ca7b155e413591f… (all of the seat's roots in one cut). By AI agents, Wed Nov 11 2026. No macro, syntax, notation, axiom, sorry.
-/
import Derived.Test.YtjnpdepgmgdhdaaChecked
import GoSem.Claim
import GoSem.ClaimJoined
import GoSem.ClaimMapViews
import Derived.JoinedTies
import Derived.KernelRfl
namespace Go.Proofs.Ytjnpdepgmgdhdaa
/- THE CELL 'sum', in the pinned program and in every row, IS THE sha256 OF THE DUMP (.gsa) THAT YtjnpdepgmgdhdaaProg.lean LOADS. Nothing in Lean hashes anything: it is a label: what it is worth is what the hold of that sum in a sandbox is worth. -/
noncomputable def Try.pinned : Pinned := { name := "ytjnpdepgmgdhdaa", sum := "2ca7b155e413591f6ef4bc7e83cb90de35ff319284e5f13764f9346968bc67c9", checked := Try.checked }
namespace Rows
def none {H : Type} : Left H := { results := [], args := [] }

/-- 'laws.FnExactReadUvarint': WHATEVER THE INPUT: true; the input reads as it did. -/
def fnExactReadUvarintSpec : ChangeSpec := { name := "fnExactReadUvarint", fn := fun _ => fun
  | [d1, d2] => { results := [.lit (.bool true)], args := [d1, d2] }
  | _ => none }
def fnExactReadUvarintRow : OpenClaim := { program := "ytjnpdepgmgdhdaa", sum := "2ca7b155e413591f6ef4bc7e83cb90de35ff319284e5f13764f9346968bc67c9", func := "loop.example/g00511/laws.FnExactReadUvarint", spec := "fnExactReadUvarint", apart := false }
def FnExactReadUvarintSaid : Prop := fnExactReadUvarintRow.holds Try.pinned (OpenSpec.ofChange fnExactReadUvarintSpec)

/-- ITS FALSE NEIGHBOUR: 'it returns false'. Refute it at one input. -/
def fnExactReadUvarintWrong : ChangeSpec := { name := "fnExactReadUvarint", fn := fun _ => fun
  | [d1, d2] => { results := [.lit (.bool false)], args := [d1, d2] }
  | _ => none }
def FnExactReadUvarintWrongFalsely : Prop := fnExactReadUvarintRow.holds Try.pinned (OpenSpec.ofChange fnExactReadUvarintWrong)

/-- 'laws.FnExactAppendUvarint': WHATEVER THE INPUT: true; the input reads as it did. -/
def fnExactAppendUvarintSpec : ChangeSpec := { name := "fnExactAppendUvarint", fn := fun _ => fun
  | [d1, d2] => { results := [.lit (.bool true)], args := [d1, d2] }
  | _ => none }
def fnExactAppendUvarintRow : OpenClaim := { program := "ytjnpdepgmgdhdaa", sum := "2ca7b155e413591f6ef4bc7e83cb90de35ff319284e5f13764f9346968bc67c9", func := "loop.example/g00511/laws.FnExactAppendUvarint", spec := "fnExactAppendUvarint", apart := false }
def FnExactAppendUvarintSaid : Prop := fnExactAppendUvarintRow.holds Try.pinned (OpenSpec.ofChange fnExactAppendUvarintSpec)

/-- ITS FALSE NEIGHBOUR: 'it returns false'. Refute it at one input. -/
def fnExactAppendUvarintWrong : ChangeSpec := { name := "fnExactAppendUvarint", fn := fun _ => fun
  | [d1, d2] => { results := [.lit (.bool false)], args := [d1, d2] }
  | _ => none }
def FnExactAppendUvarintWrongFalsely : Prop := fnExactAppendUvarintRow.holds Try.pinned (OpenSpec.ofChange fnExactAppendUvarintWrong)

/-- 'laws.FnExactAppendBytes': WHATEVER THE INPUT: true; the input reads as it did. -/
def fnExactAppendBytesSpec : ChangeSpec := { name := "fnExactAppendBytes", fn := fun _ => fun
  | [d1, d2] => { results := [.lit (.bool true)], args := [d1, d2] }
  | _ => none }
def fnExactAppendBytesRow : OpenClaim := { program := "ytjnpdepgmgdhdaa", sum := "2ca7b155e413591f6ef4bc7e83cb90de35ff319284e5f13764f9346968bc67c9", func := "loop.example/g00511/laws.FnExactAppendBytes", spec := "fnExactAppendBytes", apart := false }
def FnExactAppendBytesSaid : Prop := fnExactAppendBytesRow.holds Try.pinned (OpenSpec.ofChange fnExactAppendBytesSpec)

/-- ITS FALSE NEIGHBOUR: 'it returns false'. Refute it at one input. -/
def fnExactAppendBytesWrong : ChangeSpec := { name := "fnExactAppendBytes", fn := fun _ => fun
  | [d1, d2] => { results := [.lit (.bool false)], args := [d1, d2] }
  | _ => none }
def FnExactAppendBytesWrongFalsely : Prop := fnExactAppendBytesRow.holds Try.pinned (OpenSpec.ofChange fnExactAppendBytesWrong)

/-- 'laws.FnExactReadBytes': WHATEVER THE INPUT: true; the input reads as it did. -/
def fnExactReadBytesSpec : ChangeSpec := { name := "fnExactReadBytes", fn := fun _ => fun
  | [d1, d2, d3] => { results := [.lit (.bool true)], args := [d1, d2, d3] }
  | _ => none }
def fnExactReadBytesRow : OpenClaim := { program := "ytjnpdepgmgdhdaa", sum := "2ca7b155e413591f6ef4bc7e83cb90de35ff319284e5f13764f9346968bc67c9", func := "loop.example/g00511/laws.FnExactReadBytes", spec := "fnExactReadBytes", apart := false }
def FnExactReadBytesSaid : Prop := fnExactReadBytesRow.holds Try.pinned (OpenSpec.ofChange fnExactReadBytesSpec)

/-- ITS FALSE NEIGHBOUR: 'it returns false'. Refute it at one input. -/
def fnExactReadBytesWrong : ChangeSpec := { name := "fnExactReadBytes", fn := fun _ => fun
  | [d1, d2, d3] => { results := [.lit (.bool false)], args := [d1, d2, d3] }
  | _ => none }
def FnExactReadBytesWrongFalsely : Prop := fnExactReadBytesRow.holds Try.pinned (OpenSpec.ofChange fnExactReadBytesWrong)

/-- 'laws.FnExactEncodeInts': WHATEVER THE INPUT: true; the input reads as it did. -/
def fnExactEncodeIntsSpec : ChangeSpec := { name := "fnExactEncodeInts", fn := fun _ => fun
  | [d] => { results := [.lit (.bool true)], args := [d] }
  | _ => none }
def fnExactEncodeIntsRow : OpenClaim := { program := "ytjnpdepgmgdhdaa", sum := "2ca7b155e413591f6ef4bc7e83cb90de35ff319284e5f13764f9346968bc67c9", func := "loop.example/g00511/laws.FnExactEncodeInts", spec := "fnExactEncodeInts", apart := false }
def FnExactEncodeIntsSaid : Prop := fnExactEncodeIntsRow.holds Try.pinned (OpenSpec.ofChange fnExactEncodeIntsSpec)

/-- ITS FALSE NEIGHBOUR: 'it returns false'. Refute it at one input. -/
def fnExactEncodeIntsWrong : ChangeSpec := { name := "fnExactEncodeInts", fn := fun _ => fun
  | [d] => { results := [.lit (.bool false)], args := [d] }
  | _ => none }
def FnExactEncodeIntsWrongFalsely : Prop := fnExactEncodeIntsRow.holds Try.pinned (OpenSpec.ofChange fnExactEncodeIntsWrong)

/-- 'laws.FnExactDecodeInts': WHATEVER THE INPUT: true; the input reads as it did. -/
def fnExactDecodeIntsSpec : ChangeSpec := { name := "fnExactDecodeInts", fn := fun _ => fun
  | [d1, d2, d3] => { results := [.lit (.bool true)], args := [d1, d2, d3] }
  | _ => none }
def fnExactDecodeIntsRow : OpenClaim := { program := "ytjnpdepgmgdhdaa", sum := "2ca7b155e413591f6ef4bc7e83cb90de35ff319284e5f13764f9346968bc67c9", func := "loop.example/g00511/laws.FnExactDecodeInts", spec := "fnExactDecodeInts", apart := false }
def FnExactDecodeIntsSaid : Prop := fnExactDecodeIntsRow.holds Try.pinned (OpenSpec.ofChange fnExactDecodeIntsSpec)

/-- ITS FALSE NEIGHBOUR: 'it returns false'. Refute it at one input. -/
def fnExactDecodeIntsWrong : ChangeSpec := { name := "fnExactDecodeInts", fn := fun _ => fun
  | [d1, d2, d3] => { results := [.lit (.bool false)], args := [d1, d2, d3] }
  | _ => none }
def FnExactDecodeIntsWrongFalsely : Prop := fnExactDecodeIntsRow.holds Try.pinned (OpenSpec.ofChange fnExactDecodeIntsWrong)

/-- 'laws.FnByteStrings': WHATEVER THE INPUT: true; the input reads as it did. -/
def fnByteStringsSpec : ChangeSpec := { name := "fnByteStrings", fn := fun _ => fun
  | [d] => { results := [.lit (.bool true)], args := [d] }
  | _ => none }
def fnByteStringsRow : OpenClaim := { program := "ytjnpdepgmgdhdaa", sum := "2ca7b155e413591f6ef4bc7e83cb90de35ff319284e5f13764f9346968bc67c9", func := "loop.example/g00511/laws.FnByteStrings", spec := "fnByteStrings", apart := false }
def FnByteStringsSaid : Prop := fnByteStringsRow.holds Try.pinned (OpenSpec.ofChange fnByteStringsSpec)

/-- ITS FALSE NEIGHBOUR: 'it returns false'. Refute it at one input. -/
def fnByteStringsWrong : ChangeSpec := { name := "fnByteStrings", fn := fun _ => fun
  | [d] => { results := [.lit (.bool false)], args := [d] }
  | _ => none }
def FnByteStringsWrongFalsely : Prop := fnByteStringsRow.holds Try.pinned (OpenSpec.ofChange fnByteStringsWrong)

/-- 'laws.FnVarints': WHATEVER THE INPUT: true; the input reads as it did. -/
def fnVarintsSpec : ChangeSpec := { name := "fnVarints", fn := fun _ => fun
  | [d] => { results := [.lit (.bool true)], args := [d] }
  | _ => none }
def fnVarintsRow : OpenClaim := { program := "ytjnpdepgmgdhdaa", sum := "2ca7b155e413591f6ef4bc7e83cb90de35ff319284e5f13764f9346968bc67c9", func := "loop.example/g00511/laws.FnVarints", spec := "fnVarints", apart := false }
def FnVarintsSaid : Prop := fnVarintsRow.holds Try.pinned (OpenSpec.ofChange fnVarintsSpec)

/-- ITS FALSE NEIGHBOUR: 'it returns false'. Refute it at one input. -/
def fnVarintsWrong : ChangeSpec := { name := "fnVarints", fn := fun _ => fun
  | [d] => { results := [.lit (.bool false)], args := [d] }
  | _ => none }
def FnVarintsWrongFalsely : Prop := fnVarintsRow.holds Try.pinned (OpenSpec.ofChange fnVarintsWrong)

/- THE SECOND FORM. 'bulk': how many values and letters a reading holds, each counted each time it is reached (what is shared counts as often as it is met; a slice's spare places count too). A statement '..UptoSaid' is the law's where the arguments, and the package variables that the reading takes, are together of bulk at most 1048576: NARROWER than '..Said'. Prove '..Said' where nothing that the law and all that it calls make is longer than what came in: it says more and counts as full. Else prove '..UptoSaid'. A law counts once. -/
mutual
def uptoBulk {H : Type} : DataW H → Nat
  | .lit (.string bytes) => bytes.length + 1
  | .lit _ => 1
  | .nil => 1
  | .ptr d => uptoBulk d + 1
  | .slice elems spare => uptoBulkAll elems + uptoBulkAll spare + 1
  | .agg parts => uptoBulkAll parts + 1
  | .iface _ d => uptoBulk d + 1
  | .map entries => uptoBulkEntries entries + 1
  | .held _ => 1
def uptoBulkAll {H : Type} : List (DataW H) → Nat
  | [] => 0
  | d :: r => uptoBulk d + uptoBulkAll r
def uptoBulkEntries {H : Type} : List (Lit × DataW H) → Nat
  | [] => 0
  | x :: r => uptoBulkEntry x + uptoBulkEntries r
def uptoBulkEntry {H : Type} : Lit × DataW H → Nat
  | (.string bytes, d) => bytes.length + uptoBulk d + 1
  | (_, d) => uptoBulk d + 1
 end
def uptoSmall : (H : Type) → List (DataW H) → Bool := fun _ ds => decide (uptoBulkAll ds ≤ 1048576)
def OpenSpec.upto (s : _root_.Go.ChangeSpec) : _root_.Go.OpenSpec := { _root_.Go.OpenSpec.ofChange s with cond := some uptoSmall }

/-- 'laws.FnExactReadUvarint', WHERE WHAT IT READS IS OF BULK AT MOST 1048576: true; the input reads as it did. -/
def fnExactReadUvarintUptoRow : OpenClaim := { program := "ytjnpdepgmgdhdaa", sum := "2ca7b155e413591f6ef4bc7e83cb90de35ff319284e5f13764f9346968bc67c9", func := "loop.example/g00511/laws.FnExactReadUvarint", spec := "fnExactReadUvarint", apart := false, narrowed := true }
def FnExactReadUvarintUptoSaid : Prop := fnExactReadUvarintUptoRow.holds Try.pinned (OpenSpec.upto fnExactReadUvarintSpec)

/-- 'laws.FnExactAppendUvarint', WHERE WHAT IT READS IS OF BULK AT MOST 1048576: true; the input reads as it did. -/
def fnExactAppendUvarintUptoRow : OpenClaim := { program := "ytjnpdepgmgdhdaa", sum := "2ca7b155e413591f6ef4bc7e83cb90de35ff319284e5f13764f9346968bc67c9", func := "loop.example/g00511/laws.FnExactAppendUvarint", spec := "fnExactAppendUvarint", apart := false, narrowed := true }
def FnExactAppendUvarintUptoSaid : Prop := fnExactAppendUvarintUptoRow.holds Try.pinned (OpenSpec.upto fnExactAppendUvarintSpec)

/-- 'laws.FnExactAppendBytes', WHERE WHAT IT READS IS OF BULK AT MOST 1048576: true; the input reads as it did. -/
def fnExactAppendBytesUptoRow : OpenClaim := { program := "ytjnpdepgmgdhdaa", sum := "2ca7b155e413591f6ef4bc7e83cb90de35ff319284e5f13764f9346968bc67c9", func := "loop.example/g00511/laws.FnExactAppendBytes", spec := "fnExactAppendBytes", apart := false, narrowed := true }
def FnExactAppendBytesUptoSaid : Prop := fnExactAppendBytesUptoRow.holds Try.pinned (OpenSpec.upto fnExactAppendBytesSpec)

/-- 'laws.FnExactReadBytes', WHERE WHAT IT READS IS OF BULK AT MOST 1048576: true; the input reads as it did. -/
def fnExactReadBytesUptoRow : OpenClaim := { program := "ytjnpdepgmgdhdaa", sum := "2ca7b155e413591f6ef4bc7e83cb90de35ff319284e5f13764f9346968bc67c9", func := "loop.example/g00511/laws.FnExactReadBytes", spec := "fnExactReadBytes", apart := false, narrowed := true }
def FnExactReadBytesUptoSaid : Prop := fnExactReadBytesUptoRow.holds Try.pinned (OpenSpec.upto fnExactReadBytesSpec)

/-- 'laws.FnExactEncodeInts', WHERE WHAT IT READS IS OF BULK AT MOST 1048576: true; the input reads as it did. -/
def fnExactEncodeIntsUptoRow : OpenClaim := { program := "ytjnpdepgmgdhdaa", sum := "2ca7b155e413591f6ef4bc7e83cb90de35ff319284e5f13764f9346968bc67c9", func := "loop.example/g00511/laws.FnExactEncodeInts", spec := "fnExactEncodeInts", apart := false, narrowed := true }
def FnExactEncodeIntsUptoSaid : Prop := fnExactEncodeIntsUptoRow.holds Try.pinned (OpenSpec.upto fnExactEncodeIntsSpec)

/-- 'laws.FnExactDecodeInts', WHERE WHAT IT READS IS OF BULK AT MOST 1048576: true; the input reads as it did. -/
def fnExactDecodeIntsUptoRow : OpenClaim := { program := "ytjnpdepgmgdhdaa", sum := "2ca7b155e413591f6ef4bc7e83cb90de35ff319284e5f13764f9346968bc67c9", func := "loop.example/g00511/laws.FnExactDecodeInts", spec := "fnExactDecodeInts", apart := false, narrowed := true }
def FnExactDecodeIntsUptoSaid : Prop := fnExactDecodeIntsUptoRow.holds Try.pinned (OpenSpec.upto fnExactDecodeIntsSpec)

/-- 'laws.FnByteStrings', WHERE WHAT IT READS IS OF BULK AT MOST 1048576: true; the input reads as it did. -/
def fnByteStringsUptoRow : OpenClaim := { program := "ytjnpdepgmgdhdaa", sum := "2ca7b155e413591f6ef4bc7e83cb90de35ff319284e5f13764f9346968bc67c9", func := "loop.example/g00511/laws.FnByteStrings", spec := "fnByteStrings", apart := false, narrowed := true }
def FnByteStringsUptoSaid : Prop := fnByteStringsUptoRow.holds Try.pinned (OpenSpec.upto fnByteStringsSpec)

/-- 'laws.FnVarints', WHERE WHAT IT READS IS OF BULK AT MOST 1048576: true; the input reads as it did. -/
def fnVarintsUptoRow : OpenClaim := { program := "ytjnpdepgmgdhdaa", sum := "2ca7b155e413591f6ef4bc7e83cb90de35ff319284e5f13764f9346968bc67c9", func := "loop.example/g00511/laws.FnVarints", spec := "fnVarints", apart := false, narrowed := true }
def FnVarintsUptoSaid : Prop := fnVarintsUptoRow.holds Try.pinned (OpenSpec.upto fnVarintsSpec)

end Rows
end Go.Proofs.Ytjnpdepgmgdhdaa

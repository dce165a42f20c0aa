/-
  No cell of these rows narrows 'for every input' (looked for: loops, veiled, ifaces, maps, wideKeys, modest, calm, conditions, laid).
  DERIVED. THE GIVEN ROWS OF THIS SEAT. 12 by the template 'for every input the law returns true; each argument reads behind the call as it read before'; 0 by the template 'total and deterministic' (their statements: YtgaoiljedfogjaaTotals.lean).
  GIVEN WITH THE SEED: the statements are not yours to turn. If you find one false, say at which input.
  Laid BY PROGRAM, IN A SANDBOX (cutbox-rows.mjs): the forced cells as the released guide's own fill.sh prints them over the translation af706bd06df3a3c7… (all of the seat's roots in one cut). By AI agents, Wed Nov 11 2026. No macro, syntax, notation, axiom, sorry.
-/
import Derived.Test.YtgaoiljedfogjaaChecked
import GoSem.Claim
import GoSem.ClaimJoined
import GoSem.ClaimMapViews
import Derived.JoinedTies
import Derived.KernelRfl
namespace Go.Proofs.Ytgaoiljedfogjaa
/- THE CELL 'sum', in the pinned program and in every row, IS THE sha256 OF THE DUMP (.gsa) THAT YtgaoiljedfogjaaProg.lean LOADS. Nothing in Lean hashes anything: it is a label: what it is worth is what the hold of that sum in a sandbox is worth. -/
noncomputable def Try.pinned : Pinned := { name := "ytgaoiljedfogjaa", sum := "af706bd06df3a3c714973a474b478ea8d73987873e5269bbe06f6ef1cf00d0bd", checked := Try.checked }
namespace Rows
def none {H : Type} : Left H := { results := [], args := [] }

/-- 'laws.FnExactIntToBits': WHATEVER THE INPUT: true; the input reads as it did. -/
def fnExactIntToBitsSpec : ChangeSpec := { name := "fnExactIntToBits", fn := fun _ => fun
  | [d1, d2] => { results := [.lit (.bool true)], args := [d1, d2] }
  | _ => none }
def fnExactIntToBitsRow : OpenClaim := { program := "ytgaoiljedfogjaa", sum := "af706bd06df3a3c714973a474b478ea8d73987873e5269bbe06f6ef1cf00d0bd", func := "loop.example/g00511/laws.FnExactIntToBits", spec := "fnExactIntToBits", apart := false }
def FnExactIntToBitsSaid : Prop := fnExactIntToBitsRow.holds Try.pinned (OpenSpec.ofChange fnExactIntToBitsSpec)

/-- ITS FALSE NEIGHBOUR: 'it returns false'. Refute it at one input. -/
def fnExactIntToBitsWrong : ChangeSpec := { name := "fnExactIntToBits", fn := fun _ => fun
  | [d1, d2] => { results := [.lit (.bool false)], args := [d1, d2] }
  | _ => none }
def FnExactIntToBitsWrongFalsely : Prop := fnExactIntToBitsRow.holds Try.pinned (OpenSpec.ofChange fnExactIntToBitsWrong)

/-- 'laws.FnExactPuncture': WHATEVER THE INPUT: true; the input reads as it did. -/
def fnExactPunctureSpec : ChangeSpec := { name := "fnExactPuncture", fn := fun _ => fun
  | [d] => { results := [.lit (.bool true)], args := [d] }
  | _ => none }
def fnExactPunctureRow : OpenClaim := { program := "ytgaoiljedfogjaa", sum := "af706bd06df3a3c714973a474b478ea8d73987873e5269bbe06f6ef1cf00d0bd", func := "loop.example/g00511/laws.FnExactPuncture", spec := "fnExactPuncture", apart := false }
def FnExactPunctureSaid : Prop := fnExactPunctureRow.holds Try.pinned (OpenSpec.ofChange fnExactPunctureSpec)

/-- ITS FALSE NEIGHBOUR: 'it returns false'. Refute it at one input. -/
def fnExactPunctureWrong : ChangeSpec := { name := "fnExactPuncture", fn := fun _ => fun
  | [d] => { results := [.lit (.bool false)], args := [d] }
  | _ => none }
def FnExactPunctureWrongFalsely : Prop := fnExactPunctureRow.holds Try.pinned (OpenSpec.ofChange fnExactPunctureWrong)

/-- 'laws.FnExactBitsToInt': WHATEVER THE INPUT: true; the input reads as it did. -/
def fnExactBitsToIntSpec : ChangeSpec := { name := "fnExactBitsToInt", fn := fun _ => fun
  | [d] => { results := [.lit (.bool true)], args := [d] }
  | _ => none }
def fnExactBitsToIntRow : OpenClaim := { program := "ytgaoiljedfogjaa", sum := "af706bd06df3a3c714973a474b478ea8d73987873e5269bbe06f6ef1cf00d0bd", func := "loop.example/g00511/laws.FnExactBitsToInt", spec := "fnExactBitsToInt", apart := false }
def FnExactBitsToIntSaid : Prop := fnExactBitsToIntRow.holds Try.pinned (OpenSpec.ofChange fnExactBitsToIntSpec)

/-- ITS FALSE NEIGHBOUR: 'it returns false'. Refute it at one input. -/
def fnExactBitsToIntWrong : ChangeSpec := { name := "fnExactBitsToInt", fn := fun _ => fun
  | [d] => { results := [.lit (.bool false)], args := [d] }
  | _ => none }
def FnExactBitsToIntWrongFalsely : Prop := fnExactBitsToIntRow.holds Try.pinned (OpenSpec.ofChange fnExactBitsToIntWrong)

/-- 'laws.FnExactXorBits': WHATEVER THE INPUT: true; the input reads as it did. -/
def fnExactXorBitsSpec : ChangeSpec := { name := "fnExactXorBits", fn := fun _ => fun
  | [d1, d2] => { results := [.lit (.bool true)], args := [d1, d2] }
  | _ => none }
def fnExactXorBitsRow : OpenClaim := { program := "ytgaoiljedfogjaa", sum := "af706bd06df3a3c714973a474b478ea8d73987873e5269bbe06f6ef1cf00d0bd", func := "loop.example/g00511/laws.FnExactXorBits", spec := "fnExactXorBits", apart := false }
def FnExactXorBitsSaid : Prop := fnExactXorBitsRow.holds Try.pinned (OpenSpec.ofChange fnExactXorBitsSpec)

/-- ITS FALSE NEIGHBOUR: 'it returns false'. Refute it at one input. -/
def fnExactXorBitsWrong : ChangeSpec := { name := "fnExactXorBits", fn := fun _ => fun
  | [d1, d2] => { results := [.lit (.bool false)], args := [d1, d2] }
  | _ => none }
def FnExactXorBitsWrongFalsely : Prop := fnExactXorBitsRow.holds Try.pinned (OpenSpec.ofChange fnExactXorBitsWrong)

/-- 'laws.FnExactBytesToInts': WHATEVER THE INPUT: true; the input reads as it did. -/
def fnExactBytesToIntsSpec : ChangeSpec := { name := "fnExactBytesToInts", fn := fun _ => fun
  | [d] => { results := [.lit (.bool true)], args := [d] }
  | _ => none }
def fnExactBytesToIntsRow : OpenClaim := { program := "ytgaoiljedfogjaa", sum := "af706bd06df3a3c714973a474b478ea8d73987873e5269bbe06f6ef1cf00d0bd", func := "loop.example/g00511/laws.FnExactBytesToInts", spec := "fnExactBytesToInts", apart := false }
def FnExactBytesToIntsSaid : Prop := fnExactBytesToIntsRow.holds Try.pinned (OpenSpec.ofChange fnExactBytesToIntsSpec)

/-- ITS FALSE NEIGHBOUR: 'it returns false'. Refute it at one input. -/
def fnExactBytesToIntsWrong : ChangeSpec := { name := "fnExactBytesToInts", fn := fun _ => fun
  | [d] => { results := [.lit (.bool false)], args := [d] }
  | _ => none }
def FnExactBytesToIntsWrongFalsely : Prop := fnExactBytesToIntsRow.holds Try.pinned (OpenSpec.ofChange fnExactBytesToIntsWrong)

/-- 'laws.FnExactBytesToBits': WHATEVER THE INPUT: true; the input reads as it did. -/
def fnExactBytesToBitsSpec : ChangeSpec := { name := "fnExactBytesToBits", fn := fun _ => fun
  | [d] => { results := [.lit (.bool true)], args := [d] }
  | _ => none }
def fnExactBytesToBitsRow : OpenClaim := { program := "ytgaoiljedfogjaa", sum := "af706bd06df3a3c714973a474b478ea8d73987873e5269bbe06f6ef1cf00d0bd", func := "loop.example/g00511/laws.FnExactBytesToBits", spec := "fnExactBytesToBits", apart := false }
def FnExactBytesToBitsSaid : Prop := fnExactBytesToBitsRow.holds Try.pinned (OpenSpec.ofChange fnExactBytesToBitsSpec)

/-- ITS FALSE NEIGHBOUR: 'it returns false'. Refute it at one input. -/
def fnExactBytesToBitsWrong : ChangeSpec := { name := "fnExactBytesToBits", fn := fun _ => fun
  | [d] => { results := [.lit (.bool false)], args := [d] }
  | _ => none }
def FnExactBytesToBitsWrongFalsely : Prop := fnExactBytesToBitsRow.holds Try.pinned (OpenSpec.ofChange fnExactBytesToBitsWrong)

/-- 'laws.FnExactAppendCrc': WHATEVER THE INPUT: true; the input reads as it did. -/
def fnExactAppendCrcSpec : ChangeSpec := { name := "fnExactAppendCrc", fn := fun _ => fun
  | [d] => { results := [.lit (.bool true)], args := [d] }
  | _ => none }
def fnExactAppendCrcRow : OpenClaim := { program := "ytgaoiljedfogjaa", sum := "af706bd06df3a3c714973a474b478ea8d73987873e5269bbe06f6ef1cf00d0bd", func := "loop.example/g00511/laws.FnExactAppendCrc", spec := "fnExactAppendCrc", apart := false }
def FnExactAppendCrcSaid : Prop := fnExactAppendCrcRow.holds Try.pinned (OpenSpec.ofChange fnExactAppendCrcSpec)

/-- ITS FALSE NEIGHBOUR: 'it returns false'. Refute it at one input. -/
def fnExactAppendCrcWrong : ChangeSpec := { name := "fnExactAppendCrc", fn := fun _ => fun
  | [d] => { results := [.lit (.bool false)], args := [d] }
  | _ => none }
def FnExactAppendCrcWrongFalsely : Prop := fnExactAppendCrcRow.holds Try.pinned (OpenSpec.ofChange fnExactAppendCrcWrong)

/-- 'laws.FnExactDepuncture': WHATEVER THE INPUT: true; the input reads as it did. -/
def fnExactDepunctureSpec : ChangeSpec := { name := "fnExactDepuncture", fn := fun _ => fun
  | [d1, d2] => { results := [.lit (.bool true)], args := [d1, d2] }
  | _ => none }
def fnExactDepunctureRow : OpenClaim := { program := "ytgaoiljedfogjaa", sum := "af706bd06df3a3c714973a474b478ea8d73987873e5269bbe06f6ef1cf00d0bd", func := "loop.example/g00511/laws.FnExactDepuncture", spec := "fnExactDepuncture", apart := false }
def FnExactDepunctureSaid : Prop := fnExactDepunctureRow.holds Try.pinned (OpenSpec.ofChange fnExactDepunctureSpec)

/-- ITS FALSE NEIGHBOUR: 'it returns false'. Refute it at one input. -/
def fnExactDepunctureWrong : ChangeSpec := { name := "fnExactDepuncture", fn := fun _ => fun
  | [d1, d2] => { results := [.lit (.bool false)], args := [d1, d2] }
  | _ => none }
def FnExactDepunctureWrongFalsely : Prop := fnExactDepunctureRow.holds Try.pinned (OpenSpec.ofChange fnExactDepunctureWrong)

/-- 'laws.FnExactScramble': WHATEVER THE INPUT: true; the input reads as it did. -/
def fnExactScrambleSpec : ChangeSpec := { name := "fnExactScramble", fn := fun _ => fun
  | [d1, d2] => { results := [.lit (.bool true)], args := [d1, d2] }
  | _ => none }
def fnExactScrambleRow : OpenClaim := { program := "ytgaoiljedfogjaa", sum := "af706bd06df3a3c714973a474b478ea8d73987873e5269bbe06f6ef1cf00d0bd", func := "loop.example/g00511/laws.FnExactScramble", spec := "fnExactScramble", apart := false }
def FnExactScrambleSaid : Prop := fnExactScrambleRow.holds Try.pinned (OpenSpec.ofChange fnExactScrambleSpec)

/-- ITS FALSE NEIGHBOUR: 'it returns false'. Refute it at one input. -/
def fnExactScrambleWrong : ChangeSpec := { name := "fnExactScramble", fn := fun _ => fun
  | [d1, d2] => { results := [.lit (.bool false)], args := [d1, d2] }
  | _ => none }
def FnExactScrambleWrongFalsely : Prop := fnExactScrambleRow.holds Try.pinned (OpenSpec.ofChange fnExactScrambleWrong)

/-- 'laws.FnExactBitsToBytes': WHATEVER THE INPUT: true; the input reads as it did. -/
def fnExactBitsToBytesSpec : ChangeSpec := { name := "fnExactBitsToBytes", fn := fun _ => fun
  | [d] => { results := [.lit (.bool true)], args := [d] }
  | _ => none }
def fnExactBitsToBytesRow : OpenClaim := { program := "ytgaoiljedfogjaa", sum := "af706bd06df3a3c714973a474b478ea8d73987873e5269bbe06f6ef1cf00d0bd", func := "loop.example/g00511/laws.FnExactBitsToBytes", spec := "fnExactBitsToBytes", apart := false }
def FnExactBitsToBytesSaid : Prop := fnExactBitsToBytesRow.holds Try.pinned (OpenSpec.ofChange fnExactBitsToBytesSpec)

/-- ITS FALSE NEIGHBOUR: 'it returns false'. Refute it at one input. -/
def fnExactBitsToBytesWrong : ChangeSpec := { name := "fnExactBitsToBytes", fn := fun _ => fun
  | [d] => { results := [.lit (.bool false)], args := [d] }
  | _ => none }
def FnExactBitsToBytesWrongFalsely : Prop := fnExactBitsToBytesRow.holds Try.pinned (OpenSpec.ofChange fnExactBitsToBytesWrong)

/-- 'laws.FnExactCheckCrc': WHATEVER THE INPUT: true; the input reads as it did. -/
def fnExactCheckCrcSpec : ChangeSpec := { name := "fnExactCheckCrc", fn := fun _ => fun
  | [d] => { results := [.lit (.bool true)], args := [d] }
  | _ => none }
def fnExactCheckCrcRow : OpenClaim := { program := "ytgaoiljedfogjaa", sum := "af706bd06df3a3c714973a474b478ea8d73987873e5269bbe06f6ef1cf00d0bd", func := "loop.example/g00511/laws.FnExactCheckCrc", spec := "fnExactCheckCrc", apart := false }
def FnExactCheckCrcSaid : Prop := fnExactCheckCrcRow.holds Try.pinned (OpenSpec.ofChange fnExactCheckCrcSpec)

/-- ITS FALSE NEIGHBOUR: 'it returns false'. Refute it at one input. -/
def fnExactCheckCrcWrong : ChangeSpec := { name := "fnExactCheckCrc", fn := fun _ => fun
  | [d] => { results := [.lit (.bool false)], args := [d] }
  | _ => none }
def FnExactCheckCrcWrongFalsely : Prop := fnExactCheckCrcRow.holds Try.pinned (OpenSpec.ofChange fnExactCheckCrcWrong)

/-- 'laws.FnBits': WHATEVER THE INPUT: true; the input reads as it did. -/
def fnBitsSpec : ChangeSpec := { name := "fnBits", fn := fun _ => fun
  | [d] => { results := [.lit (.bool true)], args := [d] }
  | _ => none }
def fnBitsRow : OpenClaim := { program := "ytgaoiljedfogjaa", sum := "af706bd06df3a3c714973a474b478ea8d73987873e5269bbe06f6ef1cf00d0bd", func := "loop.example/g00511/laws.FnBits", spec := "fnBits", apart := false }
def FnBitsSaid : Prop := fnBitsRow.holds Try.pinned (OpenSpec.ofChange fnBitsSpec)

/-- ITS FALSE NEIGHBOUR: 'it returns false'. Refute it at one input. -/
def fnBitsWrong : ChangeSpec := { name := "fnBits", fn := fun _ => fun
  | [d] => { results := [.lit (.bool false)], args := [d] }
  | _ => none }
def FnBitsWrongFalsely : Prop := fnBitsRow.holds Try.pinned (OpenSpec.ofChange fnBitsWrong)

/- THE SECOND FORM. 'bulk': how many values and letters a reading holds, each counted each time it is reached (what is shared counts as often as it is met; a slice's spare places count too). A statement '..UptoSaid' is the law's where the arguments, and the package variables that the reading takes, are together of bulk at most 1048576: NARROWER than '..Said'. Prove '..Said' where nothing that the law and all that it calls make is longer than what came in: it says more and counts as full. Else prove '..UptoSaid'. A law counts once. -/
mutual
def uptoBulk {H : Type} : DataW H → Nat
  | .lit (.string bytes) => bytes.length + 1
  | .lit _ => 1
  | .nil => 1
  | .ptr d => uptoBulk d + 1
  | .slice elems spare => uptoBulkAll elems + uptoBulkAll spare + 1
  | .agg parts => uptoBulkAll parts + 1
  | .iface _ d => uptoBulk d + 1
  | .map entries => uptoBulkEntries entries + 1
  | .held _ => 1
def uptoBulkAll {H : Type} : List (DataW H) → Nat
  | [] => 0
  | d :: r => uptoBulk d + uptoBulkAll r
def uptoBulkEntries {H : Type} : List (Lit × DataW H) → Nat
  | [] => 0
  | x :: r => uptoBulkEntry x + uptoBulkEntries r
def uptoBulkEntry {H : Type} : Lit × DataW H → Nat
  | (.string bytes, d) => bytes.length + uptoBulk d + 1
  | (_, d) => uptoBulk d + 1
 end
def uptoSmall : (H : Type) → List (DataW H) → Bool := fun _ ds => decide (uptoBulkAll ds ≤ 1048576)
def OpenSpec.upto (s : _root_.Go.ChangeSpec) : _root_.Go.OpenSpec := { _root_.Go.OpenSpec.ofChange s with cond := some uptoSmall }

/-- 'laws.FnExactIntToBits', WHERE WHAT IT READS IS OF BULK AT MOST 1048576: true; the input reads as it did. -/
def fnExactIntToBitsUptoRow : OpenClaim := { program := "ytgaoiljedfogjaa", sum := "af706bd06df3a3c714973a474b478ea8d73987873e5269bbe06f6ef1cf00d0bd", func := "loop.example/g00511/laws.FnExactIntToBits", spec := "fnExactIntToBits", apart := false, narrowed := true }
def FnExactIntToBitsUptoSaid : Prop := fnExactIntToBitsUptoRow.holds Try.pinned (OpenSpec.upto fnExactIntToBitsSpec)

/-- 'laws.FnExactPuncture', WHERE WHAT IT READS IS OF BULK AT MOST 1048576: true; the input reads as it did. -/
def fnExactPunctureUptoRow : OpenClaim := { program := "ytgaoiljedfogjaa", sum := "af706bd06df3a3c714973a474b478ea8d73987873e5269bbe06f6ef1cf00d0bd", func := "loop.example/g00511/laws.FnExactPuncture", spec := "fnExactPuncture", apart := false, narrowed := true }
def FnExactPunctureUptoSaid : Prop := fnExactPunctureUptoRow.holds Try.pinned (OpenSpec.upto fnExactPunctureSpec)

/-- 'laws.FnExactBitsToInt', WHERE WHAT IT READS IS OF BULK AT MOST 1048576: true; the input reads as it did. -/
def fnExactBitsToIntUptoRow : OpenClaim := { program := "ytgaoiljedfogjaa", sum := "af706bd06df3a3c714973a474b478ea8d73987873e5269bbe06f6ef1cf00d0bd", func := "loop.example/g00511/laws.FnExactBitsToInt", spec := "fnExactBitsToInt", apart := false, narrowed := true }
def FnExactBitsToIntUptoSaid : Prop := fnExactBitsToIntUptoRow.holds Try.pinned (OpenSpec.upto fnExactBitsToIntSpec)

/-- 'laws.FnExactXorBits', WHERE WHAT IT READS IS OF BULK AT MOST 1048576: true; the input reads as it did. -/
def fnExactXorBitsUptoRow : OpenClaim := { program := "ytgaoiljedfogjaa", sum := "af706bd06df3a3c714973a474b478ea8d73987873e5269bbe06f6ef1cf00d0bd", func := "loop.example/g00511/laws.FnExactXorBits", spec := "fnExactXorBits", apart := false, narrowed := true }
def FnExactXorBitsUptoSaid : Prop := fnExactXorBitsUptoRow.holds Try.pinned (OpenSpec.upto fnExactXorBitsSpec)

/-- 'laws.FnExactBytesToInts', WHERE WHAT IT READS IS OF BULK AT MOST 1048576: true; the input reads as it did. -/
def fnExactBytesToIntsUptoRow : OpenClaim := { program := "ytgaoiljedfogjaa", sum := "af706bd06df3a3c714973a474b478ea8d73987873e5269bbe06f6ef1cf00d0bd", func := "loop.example/g00511/laws.FnExactBytesToInts", spec := "fnExactBytesToInts", apart := false, narrowed := true }
def FnExactBytesToIntsUptoSaid : Prop := fnExactBytesToIntsUptoRow.holds Try.pinned (OpenSpec.upto fnExactBytesToIntsSpec)

/-- 'laws.FnExactBytesToBits', WHERE WHAT IT READS IS OF BULK AT MOST 1048576: true; the input reads as it did. -/
def fnExactBytesToBitsUptoRow : OpenClaim := { program := "ytgaoiljedfogjaa", sum := "af706bd06df3a3c714973a474b478ea8d73987873e5269bbe06f6ef1cf00d0bd", func := "loop.example/g00511/laws.FnExactBytesToBits", spec := "fnExactBytesToBits", apart := false, narrowed := true }
def FnExactBytesToBitsUptoSaid : Prop := fnExactBytesToBitsUptoRow.holds Try.pinned (OpenSpec.upto fnExactBytesToBitsSpec)

/-- 'laws.FnExactAppendCrc', WHERE WHAT IT READS IS OF BULK AT MOST 1048576: true; the input reads as it did. -/
def fnExactAppendCrcUptoRow : OpenClaim := { program := "ytgaoiljedfogjaa", sum := "af706bd06df3a3c714973a474b478ea8d73987873e5269bbe06f6ef1cf00d0bd", func := "loop.example/g00511/laws.FnExactAppendCrc", spec := "fnExactAppendCrc", apart := false, narrowed := true }
def FnExactAppendCrcUptoSaid : Prop := fnExactAppendCrcUptoRow.holds Try.pinned (OpenSpec.upto fnExactAppendCrcSpec)

/-- 'laws.FnExactDepuncture', WHERE WHAT IT READS IS OF BULK AT MOST 1048576: true; the input reads as it did. -/
def fnExactDepunctureUptoRow : OpenClaim := { program := "ytgaoiljedfogjaa", sum := "af706bd06df3a3c714973a474b478ea8d73987873e5269bbe06f6ef1cf00d0bd", func := "loop.example/g00511/laws.FnExactDepuncture", spec := "fnExactDepuncture", apart := false, narrowed := true }
def FnExactDepunctureUptoSaid : Prop := fnExactDepunctureUptoRow.holds Try.pinned (OpenSpec.upto fnExactDepunctureSpec)

/-- 'laws.FnExactScramble', WHERE WHAT IT READS IS OF BULK AT MOST 1048576: true; the input reads as it did. -/
def fnExactScrambleUptoRow : OpenClaim := { program := "ytgaoiljedfogjaa", sum := "af706bd06df3a3c714973a474b478ea8d73987873e5269bbe06f6ef1cf00d0bd", func := "loop.example/g00511/laws.FnExactScramble", spec := "fnExactScramble", apart := false, narrowed := true }
def FnExactScrambleUptoSaid : Prop := fnExactScrambleUptoRow.holds Try.pinned (OpenSpec.upto fnExactScrambleSpec)

/-- 'laws.FnExactBitsToBytes', WHERE WHAT IT READS IS OF BULK AT MOST 1048576: true; the input reads as it did. -/
def fnExactBitsToBytesUptoRow : OpenClaim := { program := "ytgaoiljedfogjaa", sum := "af706bd06df3a3c714973a474b478ea8d73987873e5269bbe06f6ef1cf00d0bd", func := "loop.example/g00511/laws.FnExactBitsToBytes", spec := "fnExactBitsToBytes", apart := false, narrowed := true }
def FnExactBitsToBytesUptoSaid : Prop := fnExactBitsToBytesUptoRow.holds Try.pinned (OpenSpec.upto fnExactBitsToBytesSpec)

/-- 'laws.FnExactCheckCrc', WHERE WHAT IT READS IS OF BULK AT MOST 1048576: true; the input reads as it did. -/
def fnExactCheckCrcUptoRow : OpenClaim := { program := "ytgaoiljedfogjaa", sum := "af706bd06df3a3c714973a474b478ea8d73987873e5269bbe06f6ef1cf00d0bd", func := "loop.example/g00511/laws.FnExactCheckCrc", spec := "fnExactCheckCrc", apart := false, narrowed := true }
def FnExactCheckCrcUptoSaid : Prop := fnExactCheckCrcUptoRow.holds Try.pinned (OpenSpec.upto fnExactCheckCrcSpec)

/-- 'laws.FnBits', WHERE WHAT IT READS IS OF BULK AT MOST 1048576: true; the input reads as it did. -/
def fnBitsUptoRow : OpenClaim := { program := "ytgaoiljedfogjaa", sum := "af706bd06df3a3c714973a474b478ea8d73987873e5269bbe06f6ef1cf00d0bd", func := "loop.example/g00511/laws.FnBits", spec := "fnBits", apart := false, narrowed := true }
def FnBitsUptoSaid : Prop := fnBitsUptoRow.holds Try.pinned (OpenSpec.upto fnBitsSpec)

end Rows
end Go.Proofs.Ytgaoiljedfogjaa

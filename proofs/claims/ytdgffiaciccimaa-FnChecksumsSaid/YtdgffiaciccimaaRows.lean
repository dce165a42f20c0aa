/-
  No cell of these rows narrows 'for every input' (looked for: loops, veiled, ifaces, maps, wideKeys, modest, calm, conditions, laid).
  DERIVED. THE GIVEN ROWS OF THIS SEAT. 7 by the template 'for every input the law returns true; each argument reads behind the call as it read before'; 0 by the template 'total and deterministic' (their statements: YtdgffiaciccimaaTotals.lean).
  GIVEN WITH THE SEED: the statements are not yours to turn. If you find one false, say at which input.
  Laid BY PROGRAM, IN A SANDBOX (cutbox-rows.mjs): the forced cells as the released guide's own fill.sh prints them over the translation 05ce00b72954f7d8… (all of the seat's roots in one cut). By AI agents, Wed Nov 11 2026. No macro, syntax, notation, axiom, sorry.
-/
import Derived.Test.YtdgffiaciccimaaChecked
import GoSem.Claim
import GoSem.ClaimJoined
import GoSem.ClaimMapViews
import Derived.JoinedTies
import Derived.KernelRfl
namespace Go.Proofs.Ytdgffiaciccimaa
/- THE CELL 'sum', in the pinned program and in every row, IS THE sha256 OF THE DUMP (.gsa) THAT YtdgffiaciccimaaProg.lean LOADS. Nothing in Lean hashes anything: it is a label: what it is worth is what the hold of that sum in a sandbox is worth. -/
noncomputable def Try.pinned : Pinned := { name := "ytdgffiaciccimaa", sum := "05ce00b72954f7d8fd10e303c09cddd466f64dbd4ffbaf00df9715908aeafc47", checked := Try.checked }
namespace Rows
def none {H : Type} : Left H := { results := [], args := [] }

/-- 'laws.FnExactDeriveFromString': WHATEVER THE INPUT: true; the input reads as it did. -/
def fnExactDeriveFromStringSpec : ChangeSpec := { name := "fnExactDeriveFromString", fn := fun _ => fun
  | [d1, d2] => { results := [.lit (.bool true)], args := [d1, d2] }
  | _ => none }
def fnExactDeriveFromStringRow : OpenClaim := { program := "ytdgffiaciccimaa", sum := "05ce00b72954f7d8fd10e303c09cddd466f64dbd4ffbaf00df9715908aeafc47", func := "loop.example/g00511/laws.FnExactDeriveFromString", spec := "fnExactDeriveFromString", apart := false }
def FnExactDeriveFromStringSaid : Prop := fnExactDeriveFromStringRow.holds Try.pinned (OpenSpec.ofChange fnExactDeriveFromStringSpec)

/-- ITS FALSE NEIGHBOUR: 'it returns false'. Refute it at one input. -/
def fnExactDeriveFromStringWrong : ChangeSpec := { name := "fnExactDeriveFromString", fn := fun _ => fun
  | [d1, d2] => { results := [.lit (.bool false)], args := [d1, d2] }
  | _ => none }
def FnExactDeriveFromStringWrongFalsely : Prop := fnExactDeriveFromStringRow.holds Try.pinned (OpenSpec.ofChange fnExactDeriveFromStringWrong)

/-- 'laws.FnExactDecrypt': WHATEVER THE INPUT: true; the input reads as it did. -/
def fnExactDecryptSpec : ChangeSpec := { name := "fnExactDecrypt", fn := fun _ => fun
  | [d1, d2] => { results := [.lit (.bool true)], args := [d1, d2] }
  | _ => none }
def fnExactDecryptRow : OpenClaim := { program := "ytdgffiaciccimaa", sum := "05ce00b72954f7d8fd10e303c09cddd466f64dbd4ffbaf00df9715908aeafc47", func := "loop.example/g00511/laws.FnExactDecrypt", spec := "fnExactDecrypt", apart := false }
def FnExactDecryptSaid : Prop := fnExactDecryptRow.holds Try.pinned (OpenSpec.ofChange fnExactDecryptSpec)

/-- ITS FALSE NEIGHBOUR: 'it returns false'. Refute it at one input. -/
def fnExactDecryptWrong : ChangeSpec := { name := "fnExactDecrypt", fn := fun _ => fun
  | [d1, d2] => { results := [.lit (.bool false)], args := [d1, d2] }
  | _ => none }
def FnExactDecryptWrongFalsely : Prop := fnExactDecryptRow.holds Try.pinned (OpenSpec.ofChange fnExactDecryptWrong)

/-- 'laws.FnExactEncrypt': WHATEVER THE INPUT: true; the input reads as it did. -/
def fnExactEncryptSpec : ChangeSpec := { name := "fnExactEncrypt", fn := fun _ => fun
  | [d1, d2] => { results := [.lit (.bool true)], args := [d1, d2] }
  | _ => none }
def fnExactEncryptRow : OpenClaim := { program := "ytdgffiaciccimaa", sum := "05ce00b72954f7d8fd10e303c09cddd466f64dbd4ffbaf00df9715908aeafc47", func := "loop.example/g00511/laws.FnExactEncrypt", spec := "fnExactEncrypt", apart := false }
def FnExactEncryptSaid : Prop := fnExactEncryptRow.holds Try.pinned (OpenSpec.ofChange fnExactEncryptSpec)

/-- ITS FALSE NEIGHBOUR: 'it returns false'. Refute it at one input. -/
def fnExactEncryptWrong : ChangeSpec := { name := "fnExactEncrypt", fn := fun _ => fun
  | [d1, d2] => { results := [.lit (.bool false)], args := [d1, d2] }
  | _ => none }
def FnExactEncryptWrongFalsely : Prop := fnExactEncryptRow.holds Try.pinned (OpenSpec.ofChange fnExactEncryptWrong)

/-- 'laws.FnChecksums': WHATEVER THE INPUT: true; the input reads as it did. -/
def fnChecksumsSpec : ChangeSpec := { name := "fnChecksums", fn := fun _ => fun
  | [d] => { results := [.lit (.bool true)], args := [d] }
  | _ => none }
def fnChecksumsRow : OpenClaim := { program := "ytdgffiaciccimaa", sum := "05ce00b72954f7d8fd10e303c09cddd466f64dbd4ffbaf00df9715908aeafc47", func := "loop.example/g00511/laws.FnChecksums", spec := "fnChecksums", apart := false }
def FnChecksumsSaid : Prop := fnChecksumsRow.holds Try.pinned (OpenSpec.ofChange fnChecksumsSpec)

/-- ITS FALSE NEIGHBOUR: 'it returns false'. Refute it at one input. -/
def fnChecksumsWrong : ChangeSpec := { name := "fnChecksums", fn := fun _ => fun
  | [d] => { results := [.lit (.bool false)], args := [d] }
  | _ => none }
def FnChecksumsWrongFalsely : Prop := fnChecksumsRow.holds Try.pinned (OpenSpec.ofChange fnChecksumsWrong)

/-- 'laws.FnCipher': WHATEVER THE INPUT: true; the input reads as it did. -/
def fnCipherSpec : ChangeSpec := { name := "fnCipher", fn := fun _ => fun
  | [d] => { results := [.lit (.bool true)], args := [d] }
  | _ => none }
def fnCipherRow : OpenClaim := { program := "ytdgffiaciccimaa", sum := "05ce00b72954f7d8fd10e303c09cddd466f64dbd4ffbaf00df9715908aeafc47", func := "loop.example/g00511/laws.FnCipher", spec := "fnCipher", apart := false }
def FnCipherSaid : Prop := fnCipherRow.holds Try.pinned (OpenSpec.ofChange fnCipherSpec)

/-- ITS FALSE NEIGHBOUR: 'it returns false'. Refute it at one input. -/
def fnCipherWrong : ChangeSpec := { name := "fnCipher", fn := fun _ => fun
  | [d] => { results := [.lit (.bool false)], args := [d] }
  | _ => none }
def FnCipherWrongFalsely : Prop := fnCipherRow.holds Try.pinned (OpenSpec.ofChange fnCipherWrong)

/-- 'laws.FnScrambling': WHATEVER THE INPUT: true; the input reads as it did. -/
def fnScramblingSpec : ChangeSpec := { name := "fnScrambling", fn := fun _ => fun
  | [d] => { results := [.lit (.bool true)], args := [d] }
  | _ => none }
def fnScramblingRow : OpenClaim := { program := "ytdgffiaciccimaa", sum := "05ce00b72954f7d8fd10e303c09cddd466f64dbd4ffbaf00df9715908aeafc47", func := "loop.example/g00511/laws.FnScrambling", spec := "fnScrambling", apart := false }
def FnScramblingSaid : Prop := fnScramblingRow.holds Try.pinned (OpenSpec.ofChange fnScramblingSpec)

/-- ITS FALSE NEIGHBOUR: 'it returns false'. Refute it at one input. -/
def fnScramblingWrong : ChangeSpec := { name := "fnScrambling", fn := fun _ => fun
  | [d] => { results := [.lit (.bool false)], args := [d] }
  | _ => none }
def FnScramblingWrongFalsely : Prop := fnScramblingRow.holds Try.pinned (OpenSpec.ofChange fnScramblingWrong)

/-- 'laws.FnKeyedHash': WHATEVER THE INPUT: true; the input reads as it did. -/
def fnKeyedHashSpec : ChangeSpec := { name := "fnKeyedHash", fn := fun _ => fun
  | [d] => { results := [.lit (.bool true)], args := [d] }
  | _ => none }
def fnKeyedHashRow : OpenClaim := { program := "ytdgffiaciccimaa", sum := "05ce00b72954f7d8fd10e303c09cddd466f64dbd4ffbaf00df9715908aeafc47", func := "loop.example/g00511/laws.FnKeyedHash", spec := "fnKeyedHash", apart := false }
def FnKeyedHashSaid : Prop := fnKeyedHashRow.holds Try.pinned (OpenSpec.ofChange fnKeyedHashSpec)

/-- ITS FALSE NEIGHBOUR: 'it returns false'. Refute it at one input. -/
def fnKeyedHashWrong : ChangeSpec := { name := "fnKeyedHash", fn := fun _ => fun
  | [d] => { results := [.lit (.bool false)], args := [d] }
  | _ => none }
def FnKeyedHashWrongFalsely : Prop := fnKeyedHashRow.holds Try.pinned (OpenSpec.ofChange fnKeyedHashWrong)

/- THE SECOND FORM. 'bulk': how many values and letters a reading holds, each counted each time it is reached (what is shared counts as often as it is met; a slice's spare places count too). A statement '..UptoSaid' is the law's where the arguments, and the package variables that the reading takes, are together of bulk at most 1048576: NARROWER than '..Said'. Prove '..Said' where nothing that the law and all that it calls make is longer than what came in: it says more and counts as full. Else prove '..UptoSaid'. A law counts once. -/
mutual
def uptoBulk {H : Type} : DataW H → Nat
  | .lit (.string bytes) => bytes.length + 1
  | .lit _ => 1
  | .nil => 1
  | .ptr d => uptoBulk d + 1
  | .slice elems spare => uptoBulkAll elems + uptoBulkAll spare + 1
  | .agg parts => uptoBulkAll parts + 1
  | .iface _ d => uptoBulk d + 1
  | .map entries => uptoBulkEntries entries + 1
  | .held _ => 1
def uptoBulkAll {H : Type} : List (DataW H) → Nat
  | [] => 0
  | d :: r => uptoBulk d + uptoBulkAll r
def uptoBulkEntries {H : Type} : List (Lit × DataW H) → Nat
  | [] => 0
  | x :: r => uptoBulkEntry x + uptoBulkEntries r
def uptoBulkEntry {H : Type} : Lit × DataW H → Nat
  | (.string bytes, d) => bytes.length + uptoBulk d + 1
  | (_, d) => uptoBulk d + 1
 end
def uptoSmall : (H : Type) → List (DataW H) → Bool := fun _ ds => decide (uptoBulkAll ds ≤ 1048576)
def OpenSpec.upto (s : _root_.Go.ChangeSpec) : _root_.Go.OpenSpec := { _root_.Go.OpenSpec.ofChange s with cond := some uptoSmall }

/-- 'laws.FnExactDeriveFromString', WHERE WHAT IT READS IS OF BULK AT MOST 1048576: true; the input reads as it did. -/
def fnExactDeriveFromStringUptoRow : OpenClaim := { program := "ytdgffiaciccimaa", sum := "05ce00b72954f7d8fd10e303c09cddd466f64dbd4ffbaf00df9715908aeafc47", func := "loop.example/g00511/laws.FnExactDeriveFromString", spec := "fnExactDeriveFromString", apart := false, narrowed := true }
def FnExactDeriveFromStringUptoSaid : Prop := fnExactDeriveFromStringUptoRow.holds Try.pinned (OpenSpec.upto fnExactDeriveFromStringSpec)

/-- 'laws.FnExactDecrypt', WHERE WHAT IT READS IS OF BULK AT MOST 1048576: true; the input reads as it did. -/
def fnExactDecryptUptoRow : OpenClaim := { program := "ytdgffiaciccimaa", sum := "05ce00b72954f7d8fd10e303c09cddd466f64dbd4ffbaf00df9715908aeafc47", func := "loop.example/g00511/laws.FnExactDecrypt", spec := "fnExactDecrypt", apart := false, narrowed := true }
def FnExactDecryptUptoSaid : Prop := fnExactDecryptUptoRow.holds Try.pinned (OpenSpec.upto fnExactDecryptSpec)

/-- 'laws.FnExactEncrypt', WHERE WHAT IT READS IS OF BULK AT MOST 1048576: true; the input reads as it did. -/
def fnExactEncryptUptoRow : OpenClaim := { program := "ytdgffiaciccimaa", sum := "05ce00b72954f7d8fd10e303c09cddd466f64dbd4ffbaf00df9715908aeafc47", func := "loop.example/g00511/laws.FnExactEncrypt", spec := "fnExactEncrypt", apart := false, narrowed := true }
def FnExactEncryptUptoSaid : Prop := fnExactEncryptUptoRow.holds Try.pinned (OpenSpec.upto fnExactEncryptSpec)

/-- 'laws.FnChecksums', WHERE WHAT IT READS IS OF BULK AT MOST 1048576: true; the input reads as it did. -/
def fnChecksumsUptoRow : OpenClaim := { program := "ytdgffiaciccimaa", sum := "05ce00b72954f7d8fd10e303c09cddd466f64dbd4ffbaf00df9715908aeafc47", func := "loop.example/g00511/laws.FnChecksums", spec := "fnChecksums", apart := false, narrowed := true }
def FnChecksumsUptoSaid : Prop := fnChecksumsUptoRow.holds Try.pinned (OpenSpec.upto fnChecksumsSpec)

/-- 'laws.FnCipher', WHERE WHAT IT READS IS OF BULK AT MOST 1048576: true; the input reads as it did. -/
def fnCipherUptoRow : OpenClaim := { program := "ytdgffiaciccimaa", sum := "05ce00b72954f7d8fd10e303c09cddd466f64dbd4ffbaf00df9715908aeafc47", func := "loop.example/g00511/laws.FnCipher", spec := "fnCipher", apart := false, narrowed := true }
def FnCipherUptoSaid : Prop := fnCipherUptoRow.holds Try.pinned (OpenSpec.upto fnCipherSpec)

/-- 'laws.FnScrambling', WHERE WHAT IT READS IS OF BULK AT MOST 1048576: true; the input reads as it did. -/
def fnScramblingUptoRow : OpenClaim := { program := "ytdgffiaciccimaa", sum := "05ce00b72954f7d8fd10e303c09cddd466f64dbd4ffbaf00df9715908aeafc47", func := "loop.example/g00511/laws.FnScrambling", spec := "fnScrambling", apart := false, narrowed := true }
def FnScramblingUptoSaid : Prop := fnScramblingUptoRow.holds Try.pinned (OpenSpec.upto fnScramblingSpec)

/-- 'laws.FnKeyedHash', WHERE WHAT IT READS IS OF BULK AT MOST 1048576: true; the input reads as it did. -/
def fnKeyedHashUptoRow : OpenClaim := { program := "ytdgffiaciccimaa", sum := "05ce00b72954f7d8fd10e303c09cddd466f64dbd4ffbaf00df9715908aeafc47", func := "loop.example/g00511/laws.FnKeyedHash", spec := "fnKeyedHash", apart := false, narrowed := true }
def FnKeyedHashUptoSaid : Prop := fnKeyedHashUptoRow.holds Try.pinned (OpenSpec.upto fnKeyedHashSpec)

end Rows
end Go.Proofs.Ytdgffiaciccimaa

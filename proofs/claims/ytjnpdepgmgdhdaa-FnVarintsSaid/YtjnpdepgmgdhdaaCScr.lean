/- Bits of natural numbers as int64; contracts of NextScramblerState and ScramblerStateAfter (program and reference). -/
import Derived.Test.YtjnpdepgmgdhdaaProg
import Derived.Test.YtjnpdepgmgdhdaaBase
import Derived.Test.YtjnpdepgmgdhdaaCIn
import Derived.Laws.BitsAllLaws
import Derived.Laws.BitsLemmas
namespace Go.Proofs.Ytjnpdepgmgdhdaa
open Go.RowKit
set_option linter.unusedVariables false

theorem ofInt_i64 (a : Nat) (ha : a < 9223372036854775808) : (BitVec.ofInt 64 (a : Int)).toNat = a := by
  rw [BitVec.ofInt_natCast, BitVec.toNat_ofNat]; exact Nat.mod_eq_of_lt (by omega)
theorem i64_and_nat (a b : Nat) (ha : a < 9223372036854775808) (hb : b < 9223372036854775808) : bits .and .i64 (a : Int) (b : Int) = ((a &&& b : Nat) : Int) := by
  have hx : a &&& b < 2 ^ 63 := Nat.and_lt_two_pow _ (by omega)
  show IntKind.i64.wrap ((BitVec.ofInt 64 (a : Int) &&& BitVec.ofInt 64 (b : Int)).toNat : Int) = _
  rw [BitVec.toNat_and, ofInt_i64 a ha, ofInt_i64 b hb, IntKind.wrap_i64]
  omega
theorem i64_or_nat (a b : Nat) (ha : a < 9223372036854775808) (hb : b < 9223372036854775808) : bits .or .i64 (a : Int) (b : Int) = ((a ||| b : Nat) : Int) := by
  have hx : a ||| b < 2 ^ 63 := Nat.or_lt_two_pow (by omega) (by omega)
  show IntKind.i64.wrap ((BitVec.ofInt 64 (a : Int) ||| BitVec.ofInt 64 (b : Int)).toNat : Int) = _
  rw [BitVec.toNat_or, ofInt_i64 a ha, ofInt_i64 b hb, IntKind.wrap_i64]
  omega
theorem i64_xor_nat (a b : Nat) (ha : a < 9223372036854775808) (hb : b < 9223372036854775808) : bits .xor .i64 (a : Int) (b : Int) = ((a ^^^ b : Nat) : Int) := by
  have hx : a ^^^ b < 2 ^ 63 := Nat.xor_lt_two_pow (by omega) (by omega)
  show IntKind.i64.wrap ((BitVec.ofInt 64 (a : Int) ^^^ BitVec.ofInt 64 (b : Int)).toNat : Int) = _
  rw [BitVec.toNat_xor, ofInt_i64 a ha, ofInt_i64 b hb, IntKind.wrap_i64]
  omega

/-- The scrambler's output bit and next state. -/
def outS (s : Nat) : Nat := (s / 8 ^^^ s / 64) &&& 1
def nxtS (s : Nat) : Nat := ((s * 2) &&& 127) ||| outS s
theorem outS_le (s : Nat) : outS s ≤ 1 := by unfold outS; rw [Nat.and_one_is_mod]; omega
theorem nxtS_all : ∀ s, s < 128 → 1 ≤ s → 1 ≤ nxtS s ∧ nxtS s ≤ 127 := by decide +kernel
theorem nxtS_bd {s : Nat} (h : 1 ≤ s ∧ s ≤ 127) : 1 ≤ nxtS s ∧ nxtS s ≤ 127 := nxtS_all s (by omega) h.1
theorem out_bits {s : Nat} (h : s ≤ 127) : bits .and .i64 (bits .xor .i64 ((s : Int) / 8) ((s : Int) / 64)) 1 = ((outS s : Nat) : Int) := by
  have e1 : (s : Int) / 8 = ((s / 8 : Nat) : Int) := by simp
  have e2 : (s : Int) / 64 = ((s / 64 : Nat) : Int) := by simp
  have hx : s / 8 ^^^ s / 64 < 2 ^ 63 := Nat.xor_lt_two_pow (by omega) (by omega)
  rw [e1, e2, i64_xor_nat _ _ (by omega) (by omega), show (1 : Int) = ((1 : Nat) : Int) from rfl, i64_and_nat _ _ (by omega) (by omega)]
  rfl
theorem nxt_bits {s : Nat} (h : s ≤ 127) : bits .or .i64 (bits .and .i64 ((s : Int) * 2) 127) (bits .and .i64 (bits .xor .i64 ((s : Int) / 8) ((s : Int) / 64)) 1) = ((nxtS s : Nat) : Int) := by
  have e1 : (s : Int) * 2 = ((s * 2 : Nat) : Int) := by simp
  have hx : s * 2 &&& 127 < 2 ^ 63 := Nat.and_lt_two_pow _ (by omega)
  have ho := outS_le s
  rw [out_bits h, e1, show (127 : Int) = ((127 : Nat) : Int) from rfl, i64_and_nat _ _ (by omega) (by omega), i64_or_nat _ _ (by omega) (by omega)]
  rfl
/-- k steps on. -/
def scrN : Nat → Nat → Nat
  | 0, s => s
  | k + 1, s => nxtS (scrN k s)
theorem scrN_bd {s : Nat} (h : 1 ≤ s ∧ s ≤ 127) : ∀ k, 1 ≤ scrN k s ∧ scrN k s ≤ 127
  | 0 => h
  | k + 1 => nxtS_bd (scrN_bd h k)
def nxtI (s : Int) : Int := if 1 ≤ s ∧ s ≤ 127 then ((nxtS s.toNat : Nat) : Int) else 0
def scrI (s n : Int) : Int := if (1 ≤ s ∧ s ≤ 127) ∧ 0 ≤ n ∧ n ≤ 1000 then ((scrN n.toNat s.toNat : Nat) : Int) else 0

end Go.Proofs.Ytjnpdepgmgdhdaa

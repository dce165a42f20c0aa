/- The bit operations of int at natural numbers. No program in sight. -/
import Derived.WalkKit
namespace Go.Proofs.YtpmilkemimlmcaaDoor
open Go.RowKit
theorem ofInt_i64' (a : Nat) (ha : a < 9223372036854775808) : (BitVec.ofInt 64 (a : Int)).toNat = a := by
  rw [BitVec.toNat_ofInt]; omega
/-- '& (2^k - 1)' of any int lies below 2^k. -/
theorem i64_and_mask (a : Int) (k : Nat) (hk : k < 63) : ∃ x : Nat, bits .and .i64 a ((2 ^ k - 1 : Nat) : Int) = (x : Int) ∧ x < 2 ^ k := by
  have hp : 2 ^ k < 2 ^ 63 := Nat.pow_lt_pow_right (by omega) hk
  have h0 : 0 < 2 ^ k := Nat.two_pow_pos k
  refine ⟨((BitVec.ofInt 64 a &&& BitVec.ofInt 64 ((2 ^ k - 1 : Nat) : Int)).toNat), ?_, ?_⟩
  · have hx : (BitVec.ofInt 64 a &&& BitVec.ofInt 64 ((2 ^ k - 1 : Nat) : Int)).toNat < 2 ^ 63 := by
      rw [BitVec.toNat_and, ofInt_i64' _ (by omega)]
      exact Nat.and_lt_two_pow _ (by omega)
    show IntKind.i64.wrap (((BitVec.ofInt 64 a &&& BitVec.ofInt 64 ((2 ^ k - 1 : Nat) : Int)).toNat : Nat) : Int) = _
    rw [IntKind.wrap_i64]
    omega
  · rw [BitVec.toNat_and, ofInt_i64' _ (by omega)]
    exact Nat.lt_of_le_of_lt Nat.and_le_right (by omega)
theorem i64_and_255 (a : Int) : ∃ x : Nat, bits .and .i64 a 255 = (x : Int) ∧ x < 256 := i64_and_mask a 8 (by omega)
theorem i64_and_30 (a : Int) : ∃ x : Nat, bits .and .i64 a 1073741823 = (x : Int) ∧ x < 1073741824 := i64_and_mask a 30 (by omega)
end Go.Proofs.YtpmilkemimlmcaaDoor

/- Contracts of BitsToInt (program and reference). -/
import Derived.Test.YtjnpdepgmgdhdaaCBits
import Derived.Test.YtjnpdepgmgdhdaaCScr
namespace Go.Proofs.Ytjnpdepgmgdhdaa
open Go.RowKit
set_option linter.unusedVariables false

/-- The number of the first k bits. -/
def bvN (xs : List Int) : Nat → Nat
  | 0 => 0
  | k + 1 => bvN xs k + (xs.getD k 0).toNat * 2 ^ k
def b2i (xs : List Int) : Nat := if upTo 1 xs = true ∧ xs.length ≤ 40 then bvN xs xs.length else 0
theorem bvN_lt {xs : List Int} (h : upTo 1 xs = true) : ∀ k, k ≤ xs.length → bvN xs k < 2 ^ k
  | 0, _ => by simp [bvN]
  | k + 1, hk => by
    have h1 := bvN_lt h k (by omega)
    have h2 := upTo_mem h (mem_getD (show k < xs.length by omega) rfl)
    have h3 : (xs.getD k 0).toNat * 2 ^ k ≤ 1 * 2 ^ k := Nat.mul_le_mul_right _ (by omega)
    rw [bvN, Nat.pow_succ]
    omega
theorem or_add {n b k : Nat} (h : n < 2 ^ k) : n ||| (b * 2 ^ k) = n + b * 2 ^ k := by
  rw [Nat.or_comm, Nat.mul_comm b, ← Nat.two_pow_add_eq_or_of_lt h]
  omega
theorem pow40 {k : Nat} (h : k ≤ 40) : 2 ^ k ≤ 1099511627776 := Nat.le_trans (Nat.pow_le_pow_right (by omega) h) (by decide)
theorem or_bits {n b k : Nat} (hk : k < 40) (hn : n < 2 ^ k) (hb : b ≤ 1) : bits .or .i64 (n : Int) ((b : Int) * 2 ^ k) = ((n + b * 2 ^ k : Nat) : Int) := by
  have e : (b : Int) * 2 ^ k = ((b * 2 ^ k : Nat) : Int) := by simp
  have h1 := pow40 (show k ≤ 40 by omega)
  have h2 : b * 2 ^ k ≤ 1 * 2 ^ k := Nat.mul_le_mul_right _ hb
  rw [e, i64_or_nat _ _ (by omega) (by omega), or_add hn]
theorem b2i_lt (xs : List Int) : b2i xs < 1099511627776 := by
  unfold b2i; split
  · next h => exact Nat.lt_of_lt_of_le (bvN_lt h.1 _ (Nat.le_refl _)) (pow40 h.2)
  · omega

end Go.Proofs.Ytjnpdepgmgdhdaa

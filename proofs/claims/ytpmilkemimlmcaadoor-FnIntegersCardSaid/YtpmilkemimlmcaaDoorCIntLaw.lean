/- Plain law of FnIntegers. No program in sight. -/
import Derived.Test.YtpmilkemimlmcaaDoorCDec
import Derived.Lib.ItoaMem
namespace Go.Proofs.YtpmilkemimlmcaaDoor
open Go.Lib (itoa decDigits)
/-- What ParseInt says of the decimal form of m. -/
theorem itoa_ok (m : Int) : pOk (itoa m) = (decide (0 ≤ m) && decide (m ≤ 1000000000000)) := by
  by_cases h0 : 0 ≤ m
  · obtain ⟨n, rfl⟩ := Int.eq_ofNat_of_zero_le h0
    rw [show itoa (n : Int) = decDigits n from Go.Lib.itoa_nonneg n, decide_eq_true h0, Bool.true_and]
    by_cases h1 : n ≤ 1000000000000
    · rw [(pOk_in h1).1, decide_eq_true (by omega)]
    · rw [pOk_out (by omega), decide_eq_false (by omega)]
  · rw [itoa_lt (by omega), pOk_neg, decide_eq_false h0]; rfl
theorem itoa_val {m : Int} (h0 : 0 ≤ m) (h1 : m ≤ 1000000000000) : ((pVal (itoa m) : Nat) : Int) = m := by
  obtain ⟨n, rfl⟩ := Int.eq_ofNat_of_zero_le h0
  rw [show itoa (n : Int) = decDigits n from Go.Lib.itoa_nonneg n, (pOk_in (by omega)).2]
theorem itoa_back {l : List UInt8} (h : pOk l = true) : itoa ((pVal l : Nat) : Int) = l := by
  rw [Go.Lib.itoa_nonneg]; exact (pOk_dec h).1
/-- CeilDiv's inequality. -/
theorem ceil_law {a b : Int} (hb : 1 ≤ b) : a ≤ (a + b - 1) / b * b ∧ (a + b - 1) / b * b - a < b := by
  have h1 := Int.emod_add_mul_ediv (a + b - 1) b
  have h2 := Int.emod_nonneg (a + b - 1) (show b ≠ 0 by omega)
  have h3 := Int.emod_lt_of_pos (a + b - 1) (show 0 < b by omega)
  rw [Int.mul_comm b] at h1
  omega
end Go.Proofs.YtpmilkemimlmcaaDoor

/- Contracts of IntToBits and BytesToBits (program and reference). -/
import Derived.Test.YtjnpdepgmgdhdaaCApp
import Derived.Test.YtjnpdepgmgdhdaaCInfo
import Derived.Test.YtjnpdepgmgdhdaaCLit
import Derived.Test.YtjnpdepgmgdhdaaCScr
namespace Go.Proofs.Ytjnpdepgmgdhdaa
open Go.RowKit
set_option linter.unusedVariables false

/-- Bit k of n; the first c bits of n; the bits of bytes. -/
def bitN (n k : Nat) : Nat := n / 2 ^ k % 2
def itb (n c : Nat) : List Int := (List.range c).map fun i => ((bitN n i : Nat) : Int)
def btb (xs : List Int) : List Int := xs.flatMap fun x => itb x.toNat 8
theorem bitN_lt (n k : Nat) : bitN n k < 2 := by unfold bitN; omega
theorem itb_len (n c : Nat) : (itb n c).length = c := by simp [itb]
theorem itb_succ (n c : Nat) : itb n (c + 1) = itb n c ++ [((bitN n c : Nat) : Int)] := by simp [itb, List.range_succ]
theorem btb_len (xs : List Int) : (btb xs).length = 8 * xs.length := by
  induction xs with
  | nil => rfl
  | cons a t ih =>
    have : btb (a :: t) = itb a.toNat 8 ++ btb t := rfl
    rw [this, List.length_append, ih, itb_len, List.length_cons]; omega
theorem btb_step {xs : List Int} {k x : Nat} (h : k < xs.length) (hx : xs.getD k 0 = (x : Int)) : btb (xs.take (k + 1)) = btb (xs.take k) ++ itb x 8 := by
  rw [take_getD h, hx]
  simp [btb]
theorem and_one {m : Nat} (h : m < 9223372036854775808) : bits .and .i64 (m : Int) 1 = ((m % 2 : Nat) : Int) := by
  rw [show (1 : Int) = ((1 : Nat) : Int) from rfl, i64_and_nat _ _ h (by omega), Nat.and_one_is_mod]
theorem bit_and {n k : Nat} (h : n < 9223372036854775808) : bits .and .i64 ((n : Int) / 2 ^ k) 1 = ((bitN n k : Nat) : Int) := by
  have e : (n : Int) / 2 ^ k = ((n / 2 ^ k : Nat) : Int) := by simp
  have hl : n / 2 ^ k ≤ n := Nat.div_le_self _ _
  rw [e, and_one (by omega)]; rfl
/-- A slice that is filled from its beginning on, whatever with. -/
theorem fillF_set {L : List Int} {c k : Nat} {x : Int} (hL : L.length = k) (hk : k < c) : (L ++ List.replicate (c - k) 0).set k x = (L ++ [x]) ++ List.replicate (c - (k + 1)) 0 := by
  rw [List.set_append_right _ _ (by omega), hL, Nat.sub_self, show c - k = (c - (k + 1)) + 1 by omega, List.replicate_succ, List.set_cons_zero]
  simp
/-- What IntToBits computes, for all arguments. -/
def itbI (n c : Int) : List Int := if 0 ≤ n ∧ 0 ≤ c ∧ c ≤ 40 then itb n.toNat c.toNat else []
theorem itbI_len (n c : Int) : (itbI n c).length ≤ 40 := by
  unfold itbI; split
  · rw [itb_len]; omega
  · simp

end Go.Proofs.Ytjnpdepgmgdhdaa

/- The draws of FnIntegers; the contract of the program's CeilDiv. -/
import Derived.Test.YtpmilkemimlmcaaDoorCDrawD
import Derived.Test.YtpmilkemimlmcaaDoorCDrawF
import Derived.Test.YtpmilkemimlmcaaDoorCFmt
namespace Go.Proofs.YtpmilkemimlmcaaDoor
open Go.RowKit
open Go.Lib (itoa)
set_option linter.unusedVariables false

/-- What a Draw of a string leaves; of an int; of two. -/
def LotT (w : World) (e : Ending) (w' : World) : Prop := (∃ s, e = .returned (.string s) ∧ s.size ≤ 21) ∧ Below w.heap.size w w'
def LotN (w : World) (e : Ending) (w' : World) : Prop := (∃ n : Int, e = .returned (.int .i64 n) ∧ -9223372036854775808 ≤ n ∧ n ≤ 9223372036854775807) ∧ Below w.heap.size w w'
def LotNN (w : World) (e : Ending) (w' : World) : Prop := (∃ n m : Int, e = .returned (.tuple #[.int .i64 n, .int .i64 m]) ∧ (-9223372036854775808 ≤ n ∧ n ≤ 9223372036854775807) ∧ (-9223372036854775808 ≤ m ∧ m ≤ 9223372036854775807)) ∧ Below w.heap.size w w'
def numW : Nat → ByteArray
  | 0 => ⟨#[]⟩ | 1 => ⟨#[48]⟩ | 2 => ⟨#[48, 48]⟩ | 3 => ⟨#[45, 49]⟩ | 4 => ⟨#[48, 49]⟩ | 5 => ⟨#[55]⟩
  | 6 => ⟨#[49, 48, 48, 48, 48, 48, 48, 48, 48, 48, 48, 48, 48]⟩ | 7 => ⟨#[49, 48, 48, 48, 48, 48, 48, 48, 48, 48, 48, 48, 49]⟩
  | 8 => ⟨#[57, 57, 57, 57, 57, 57, 57, 57, 57, 57, 57, 57, 57, 57]⟩ | 9 => ⟨#[49, 120]⟩ | _ => ⟨#[32, 49]⟩
theorem numW_size : ∀ i, (numW i).size ≤ 21
  | 0 => by decide | 1 => by decide | 2 => by decide | 3 => by decide | 4 => by decide | 5 => by decide | 6 => by decide | 7 => by decide | 8 => by decide | 9 => by decide
  | n + 10 => by show (⟨#[32, 49]⟩ : ByteArray).size ≤ 21; decide
theorem itoa_size {n : Int} (h0 : -9223372036854775808 ≤ n) (h1 : n ≤ 9223372036854775807) : (⟨(itoa n).toArray⟩ : ByteArray).size ≤ 21 := by
  have := Lib.itoa_length_le n h0 h1
  show (itoa n).toArray.size ≤ 21
  simpa using this

set_option maxHeartbeats 1600000 in
theorem DrawParseInt (u : Value) (xs : List Int) (w : World) (hu : Rd .u8 w u xs) (hn : xs.length ≤ 1099511627776) :
    Calls Tryd.prog 8 #[u] w (LotT w) := by
  obtain ⟨a, c, rfl⟩ := hu.shape
  go_enter Tryd.func8, Tryd.ntmps8
  go_wp2_with fail
  refine (l1New _ xs w hu hn).mono ?_
  rintro e w1 ⟨⟨v, rfl, hc⟩, b1⟩
  have s1 := b1.size
  go_wp2_with fail
  refine (l1Once v 2 _ _ _ hc (by omega) (by omega)).mono ?_
  rintro e w2 ⟨⟨b, rfl⟩, hc2, ho2⟩
  have hs := hc2.sz.1
  have s2 := ho2.size
  cases b
  · go_wp2_with fail
    refine (l1Num v _ _ _ hc2).mono ?_
    rintro e w3 ⟨⟨x, rfl, hx0, hx1⟩, hc3, ho3⟩
    have HZ := Lib.hid (itoa_size (n := x) (by omega) (by omega))
    have b3 := Only.belowAt b1 (ho2.trans ho3)
    go_wp2_with fail
    refine (spec_FormatInt x w3 (by omega)).mono ?_
    rintro e w4 ⟨rfl, b4⟩
    have b5 := below_next b3 b4
    go_wp2_with fail
    go_ret
    exact ⟨⟨_, rfl, HZ.out⟩, b5⟩
  · go_wp2_with fail
    refine (l1Str v numW 11 _ _ _ _ _ (hc2.next ((Below.refl _ _).alloc (Nat.le_refl _) _)) hs (by simp) ?_ (by omega) (by omega)).mono ?_
    · intro i hi
      match i, hi with
      | 0, _ => simp [World.cell?, World.alloc, -World.alloc_eq, numW]
      | 1, _ => simp [World.cell?, World.alloc, -World.alloc_eq, numW]
      | 2, _ => simp [World.cell?, World.alloc, -World.alloc_eq, numW]
      | 3, _ => simp [World.cell?, World.alloc, -World.alloc_eq, numW]
      | 4, _ => simp [World.cell?, World.alloc, -World.alloc_eq, numW]
      | 5, _ => simp [World.cell?, World.alloc, -World.alloc_eq, numW]
      | 6, _ => simp [World.cell?, World.alloc, -World.alloc_eq, numW]
      | 7, _ => simp [World.cell?, World.alloc, -World.alloc_eq, numW]
      | 8, _ => simp [World.cell?, World.alloc, -World.alloc_eq, numW]
      | 9, _ => simp [World.cell?, World.alloc, -World.alloc_eq, numW]
      | 10, _ => simp [World.cell?, World.alloc, -World.alloc_eq, numW]
    rintro e w4 ⟨⟨i, hi, rfl⟩, hc4, ho4⟩
    have b4 := Only.belowAt b1 ((ho2.alloc _).trans ho4)
    have HZ := Lib.hid (numW_size i)
    go_wp2_with fail
    go_ret
    exact ⟨⟨_, rfl, HZ.out⟩, b4⟩
set_option maxHeartbeats 1600000 in
theorem DrawFormatInt (u : Value) (xs : List Int) (w : World) (hu : Rd .u8 w u xs) (hn : xs.length ≤ 1099511627776) :
    Calls Tryd.prog 10 #[u] w (LotN w) := by
  obtain ⟨a, c, rfl⟩ := hu.shape
  go_enter Tryd.func10, Tryd.ntmps10
  go_wp2_with fail
  refine (l1New _ xs w hu hn).mono ?_
  rintro e w1 ⟨⟨v, rfl, hc⟩, b1⟩
  go_wp2_with fail
  refine (l1One v _ _ _ hc).mono ?_
  rintro e w2 ⟨⟨x, rfl, hx⟩, hc2, ho2⟩
  have b2 := Only.belowAt b1 ho2
  go_wp2
  go_ret
  exact ⟨⟨x, rfl, hx⟩, b2⟩
set_option maxHeartbeats 1600000 in
theorem DrawCeilDiv (u : Value) (xs : List Int) (w : World) (hu : Rd .u8 w u xs) (hn : xs.length ≤ 1099511627776) :
    Calls Tryd.prog 11 #[u] w (LotNN w) := by
  obtain ⟨a, c, rfl⟩ := hu.shape
  go_enter Tryd.func11, Tryd.ntmps11
  go_wp2_with fail
  refine (l1New _ xs w hu hn).mono ?_
  rintro e w1 ⟨⟨v, rfl, hc⟩, b1⟩
  go_wp2_with fail
  refine (l1One v _ _ _ hc).mono ?_
  rintro e w2 ⟨⟨x, rfl, hx⟩, hc2, ho2⟩
  go_wp2_with fail
  refine (l1One v _ _ _ hc2).mono ?_
  rintro e w3 ⟨⟨y, rfl, hy⟩, hc3, ho3⟩
  have b3 := Only.belowAt b1 (ho2.trans ho3)
  go_wp2
  go_ret2
  exact ⟨⟨x, y, rfl, hx, hy⟩, b3⟩
/-- What CeilDiv computes. -/
def cdv (a b : Int) : Int := if (0 ≤ a ∧ a ≤ 1000000000000) ∧ (1 ≤ b ∧ b ≤ 1000000000000) then (a + b - 1) / b else 0
set_option maxHeartbeats 1600000 in
theorem impl_CeilDiv (a b : Int) (w : World) (ha : -9223372036854775808 ≤ a ∧ a ≤ 9223372036854775807) (hb : -9223372036854775808 ≤ b ∧ b ≤ 9223372036854775807) :
    Calls Tryd.prog 12 #[.int .i64 a, .int .i64 b] w fun e w' => e = .returned (.int .i64 (cdv a b)) ∧ w = w' := by
  by_cases h : (0 ≤ a ∧ a ≤ 1000000000000) ∧ (1 ≤ b ∧ b ≤ 1000000000000)
  · have HC := Lib.hid (show (a + b - 1) / b = cdv a b from (if_pos h).symm)
    obtain ⟨⟨t0, t1⟩, t2, t3⟩ := h
    clear ha hb
    go_enter Tryd.func12, Tryd.ntmps12
    go_wp2
    go_ret
    exact ⟨ret_int HC.out, rfl⟩
  · have hz : cdv a b = 0 := if_neg h
    rw [hz]
    obtain ⟨l0, u0⟩ := ha
    obtain ⟨l1, u1⟩ := hb
    clear hz
    rcases (show ¬ (0 ≤ a) ∨ (0 ≤ a ∧ ¬ (a ≤ 1000000000000)) ∨ (0 ≤ a ∧ a ≤ 1000000000000 ∧ ¬ (1 ≤ b)) ∨ (0 ≤ a ∧ a ≤ 1000000000000 ∧ 1 ≤ b ∧ ¬ (b ≤ 1000000000000)) by omega) with t0 | ⟨t0, t1⟩ | ⟨t0, t1, t2⟩ | ⟨t0, t1, t2, t3⟩
    all_goals
      clear h
      go_enter Tryd.func12, Tryd.ntmps12
      go_wp2
      go_ret
      exact ⟨rfl, rfl⟩
end Go.Proofs.YtpmilkemimlmcaaDoor

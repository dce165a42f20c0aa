/- Contracts of Min, Max, LongestRun and HammingDistance (program and reference). -/
import Derived.Test.YtgaoiljedfogjaaProg
import Derived.Test.YtgaoiljedfogjaaBase
import Derived.Deep.QuietTactic
import Derived.BigQuiet
namespace Go.Proofs.Ytgaoiljedfogjaa
open Go.RowKit
set_option linter.unusedVariables false

def mxI (a b : Int) : Int := if a < b then b else a
def mnI (a b : Int) : Int := if b < a then b else a
theorem impl_Max (a b : Int) (w : World) :
    Calls Try.prog 76 #[.int .i64 a, .int .i64 b] w fun e w' => e = .returned (.int .i64 (mxI a b)) ∧ w = w' := by
  by_cases h : a < b
  · rw [show mxI a b = b from if_pos h]
    go_enter Try.func76, Try.ntmps76
    go_wp2
    go_ret
    exact ⟨rfl, rfl⟩
  · rw [show mxI a b = a from if_neg h]
    go_enter Try.func76, Try.ntmps76
    go_wp2
    go_ret
    exact ⟨rfl, rfl⟩
theorem impl_Min (a b : Int) (w : World) :
    Calls Try.prog 58 #[.int .i64 a, .int .i64 b] w fun e w' => e = .returned (.int .i64 (mnI a b)) ∧ w = w' := by
  by_cases h : b < a
  · rw [show mnI a b = b from if_pos h]
    go_enter Try.func58, Try.ntmps58
    go_wp2
    go_ret
    exact ⟨rfl, rfl⟩
  · rw [show mnI a b = a from if_neg h]
    go_enter Try.func58, Try.ntmps58
    go_wp2
    go_ret
    exact ⟨rfl, rfl⟩

theorem below_drawn {B : Nat} {a w : World} (h : Below B a w) (n : Nat) : Below B a (w.drewN n) := ⟨h.os, h.tape, h.output, h.size, h.block⟩
/-- The longest run so far and the present one, behind k elements. -/
def runs (xs : List Int) : Nat → Int × Int
  | 0 => (0, 0)
  | k + 1 => if 0 < k ∧ xs.getD k 0 = xs.getD (k - 1) 0 then (mxI (runs xs k).1 ((runs xs k).2 + 1), (runs xs k).2 + 1) else (mxI (runs xs k).1 1, 1)
theorem mxI_bd {a b n : Int} (ha : 0 ≤ a ∧ a ≤ n) (hb : 0 ≤ b ∧ b ≤ n) : 0 ≤ mxI a b ∧ mxI a b ≤ n := by unfold mxI; split <;> omega
theorem runs_bd (xs : List Int) : ∀ k : Nat, (0 ≤ (runs xs k).1 ∧ (runs xs k).1 ≤ k) ∧ 0 ≤ (runs xs k).2 ∧ (runs xs k).2 ≤ k
  | 0 => by simp [runs]
  | k + 1 => by
    have ih := runs_bd xs k
    rw [runs]
    split
    · exact ⟨mxI_bd (by omega) (by omega), by omega, by omega⟩
    · exact ⟨mxI_bd (by omega) (by omega), by omega, by omega⟩
theorem runs_yes {xs : List Int} {k : Nat} (h0 : 0 < k) (h : xs.getD k 0 = xs.getD (k - 1) 0) : runs xs (k + 1) = (mxI (runs xs k).1 ((runs xs k).2 + 1), (runs xs k).2 + 1) := by rw [runs, if_pos ⟨h0, h⟩]
theorem runs_no {xs : List Int} {k : Nat} (h : ¬ (0 < k ∧ xs.getD k 0 = xs.getD (k - 1) 0)) : runs xs (k + 1) = (mxI (runs xs k).1 1, 1) := by rw [runs, if_neg h]
def longest (xs : List Int) : Int := (runs xs xs.length).1

end Go.Proofs.Ytgaoiljedfogjaa

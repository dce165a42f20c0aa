/- Contracts of Min, Max, LongestRun and HammingDistance (program and reference). -/
import Derived.Test.YtdgffiaciccimaaProg
import Derived.Test.YtdgffiaciccimaaBase
import Derived.Deep.QuietTactic
import Derived.BigQuiet
namespace Go.Proofs.Ytdgffiaciccimaa
open Go.RowKit
set_option linter.unusedVariables false

def mxI (a b : Int) : Int := if a < b then b else a
def mnI (a b : Int) : Int := if b < a then b else a
theorem spec_Max (a b : Int) (w : World) :
    Calls Try.prog 39 #[.int .i64 a, .int .i64 b] w fun e w' => e = .returned (.int .i64 (mxI a b)) ∧ w = w' := by
  by_cases h : a < b
  · rw [show mxI a b = b from if_pos h]
    go_enter Try.func39, Try.ntmps39
    go_wp2
    go_ret
    exact ⟨rfl, rfl⟩
  · rw [show mxI a b = a from if_neg h]
    go_enter Try.func39, Try.ntmps39
    go_wp2
    go_ret
    exact ⟨rfl, rfl⟩

theorem below_drawn {B : Nat} {a w : World} (h : Below B a w) (n : Nat) : Below B a (w.drewN n) := ⟨h.os, h.tape, h.output, h.size, h.block⟩
/-- The longest run so far and the present one, behind k elements. -/
def runs (xs : List Int) : Nat → Int × Int
  | 0 => (0, 0)
  | k + 1 => if 0 < k ∧ xs.getD k 0 = xs.getD (k - 1) 0 then (mxI (runs xs k).1 ((runs xs k).2 + 1), (runs xs k).2 + 1) else (mxI (runs xs k).1 1, 1)
theorem mxI_bd {a b n : Int} (ha : 0 ≤ a ∧ a ≤ n) (hb : 0 ≤ b ∧ b ≤ n) : 0 ≤ mxI a b ∧ mxI a b ≤ n := by unfold mxI; split <;> omega
theorem runs_bd (xs : List Int) : ∀ k : Nat, (0 ≤ (runs xs k).1 ∧ (runs xs k).1 ≤ k) ∧ 0 ≤ (runs xs k).2 ∧ (runs xs k).2 ≤ k
  | 0 => by simp [runs]
  | k + 1 => by
    have ih := runs_bd xs k
    rw [runs]
    split
    · exact ⟨mxI_bd (by omega) (by omega), by omega, by omega⟩
    · exact ⟨mxI_bd (by omega) (by omega), by omega, by omega⟩
theorem runs_yes {xs : List Int} {k : Nat} (h0 : 0 < k) (h : xs.getD k 0 = xs.getD (k - 1) 0) : runs xs (k + 1) = (mxI (runs xs k).1 ((runs xs k).2 + 1), (runs xs k).2 + 1) := by rw [runs, if_pos ⟨h0, h⟩]
theorem runs_no {xs : List Int} {k : Nat} (h : ¬ (0 < k ∧ xs.getD k 0 = xs.getD (k - 1) 0)) : runs xs (k + 1) = (mxI (runs xs k).1 1, 1) := by rw [runs, if_neg h]
def longest (xs : List Int) : Int := (runs xs xs.length).1

end Go.Proofs.Ytdgffiaciccimaa

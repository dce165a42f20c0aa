/- Contracts of InRange (program) and l1In (reference), one for each answer. -/
import Derived.Test.YtpmilkemimlmcaaProg
import Derived.Test.YtpmilkemimlmcaaBase
namespace Go.Proofs.Ytpmilkemimlmcaa
open Go.RowKit
set_option linter.unusedVariables false

theorem spec_in_yes (n lo hi : Int) (w : World) (h : lo ≤ n ∧ n ≤ hi) :
    Calls Try.prog 6 #[.int .i64 n, .int .i64 lo, .int .i64 hi] w fun e w' => e = .returned (.bool true) ∧ w = w' := by
  obtain ⟨h1, h2⟩ := h
  go_enter Try.func6, Try.ntmps6
  go_wp2
  go_ret
  exact ⟨rfl, rfl⟩
theorem spec_in_no (n lo hi : Int) (w : World) (h : ¬ (lo ≤ n ∧ n ≤ hi)) :
    Calls Try.prog 6 #[.int .i64 n, .int .i64 lo, .int .i64 hi] w fun e w' => e = .returned (.bool false) ∧ w = w' := by
  have h3 : lo ≤ n → decide (n ≤ hi) = false := fun h1 => by simp; omega
  rcases (show n < lo ∨ (lo ≤ n ∧ hi < n) by omega) with h1 | ⟨h1, h2⟩
  all_goals
    clear h
    try have h4 := h3 h1
    clear h3
    go_enter Try.func6, Try.ntmps6
    go_wp2
    go_ret
    exact ⟨rfl, rfl⟩
end Go.Proofs.Ytpmilkemimlmcaa

/- Contracts of the laws' big and at. -/
import Derived.Test.YtpmilkemimlmcaaDoorProg
import Derived.Test.YtpmilkemimlmcaaDoorBase
namespace Go.Proofs.YtpmilkemimlmcaaDoor
open Go.RowKit
set_option linter.unusedVariables false

/-- What at returns. -/
def atN (xs : List Int) (i : Nat) : Nat := if i < xs.length then (xs.getD i 0).toNat else (i * 31 + xs.length * 7) % 256
theorem atN_lt {xs : List Int} (hw : ∀ n ∈ xs, (Lit.int .u8 n).wf = true) (i : Nat) : atN xs i < 256 := by
  unfold atN
  split
  · rename_i h
    have := bounds_u8 (hw (xs.getD i 0) (by rw [List.getD_eq_getElem?_getD, List.getElem?_eq_getElem h]; exact List.getElem_mem h))
    omega
  · exact Nat.mod_lt _ (by omega)
theorem laws_big (u : Value) (xs : List Int) (w : World) (hu : Rd .u8 w u xs) :
    Calls Tryd.prog 7 #[u] w fun e w' => e = .returned (.bool (decide (1048576 < xs.length))) ∧ w = w' := by
  have lx := hu.len_le
  obtain ⟨a, c, rfl⟩ := hu.shape
  by_cases h : 1048576 < xs.length
  · rw [decide_eq_true h]
    clear hu
    go_enter Tryd.func7, Tryd.ntmps7
    go_wp2
    go_ret
    exact ⟨ret_bool (decide_eq_true (by omega)), rfl⟩
  · rw [decide_eq_false h]
    clear hu
    go_enter Tryd.func7, Tryd.ntmps7
    go_wp2
    go_ret
    exact ⟨ret_bool (decide_eq_false (by omega)), rfl⟩
end Go.Proofs.YtpmilkemimlmcaaDoor

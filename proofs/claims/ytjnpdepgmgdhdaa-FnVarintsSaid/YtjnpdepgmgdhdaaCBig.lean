/- Contracts of the laws' big and at. -/
import Derived.Test.YtjnpdepgmgdhdaaProg
import Derived.Test.YtjnpdepgmgdhdaaBase
namespace Go.Proofs.Ytjnpdepgmgdhdaa
open Go.RowKit
set_option linter.unusedVariables false

/-- What at returns. -/
def atN (xs : List Int) (i : Nat) : Nat := if i < xs.length then (xs.getD i 0).toNat else (i * 31 + xs.length * 7) % 256
theorem atN_lt {xs : List Int} (hw : ∀ n ∈ xs, (Lit.int .u8 n).wf = true) (i : Nat) : atN xs i < 256 := by
  unfold atN
  split
  · rename_i h
    have := bounds_u8 (hw (xs.getD i 0) (by rw [List.getD_eq_getElem?_getD, List.getElem?_eq_getElem h]; exact List.getElem_mem h))
    omega
  · exact Nat.mod_lt _ (by omega)
theorem laws_big (u : Value) (xs : List Int) (w : World) (hu : Rd .u8 w u xs) :
    Calls Try.prog 31 #[u] w fun e w' => e = .returned (.bool (decide (1048576 < xs.length))) ∧ w = w' := by
  have lx := hu.len_le
  obtain ⟨a, c, rfl⟩ := hu.shape
  by_cases h : 1048576 < xs.length
  · rw [decide_eq_true h]
    clear hu
    go_enter Try.func31, Try.ntmps31
    go_wp2
    go_ret
    exact ⟨ret_bool (decide_eq_true (by omega)), rfl⟩
  · rw [decide_eq_false h]
    clear hu
    go_enter Try.func31, Try.ntmps31
    go_wp2
    go_ret
    exact ⟨ret_bool (decide_eq_false (by omega)), rfl⟩
theorem laws_at (u : Value) (xs : List Int) (i : Nat) (w : World) (hu : Rd .u8 w u xs) (hi : i ≤ 1000000) (hn : xs.length ≤ 1048576) :
    Calls Try.prog 34 #[u, .int .i64 (i : Int)] w fun e w' => e = .returned (.int .i64 ((atN xs i : Nat) : Int)) ∧ w = w' := by
  by_cases h : i < xs.length
  · rcases hu.parts with ⟨rfl, -⟩ | ⟨h0, b, off, c, rfl⟩
    · simp at h
    obtain ⟨x, hb, HX, g1, x0, x1⟩ := hu.elem8 (Below.refl _ _) h
    have HA : Hid (((atN xs i : Nat) : Int) = x) := Lib.hid (by unfold atN; rw [if_pos h, HX.out]; omega)
    go_enter Try.func34, Try.ntmps34
    go_wp2
    go_ret
    exact ⟨ret_int HA.out.symm, rfl⟩
  · obtain ⟨a, c, rfl⟩ := hu.shape
    have HA : Hid (atN xs i = (i * 31 + xs.length * 7) % 256) := Lib.hid (if_neg h)
    clear hu
    go_enter Try.func34, Try.ntmps34
    go_wp2
    go_ret
    exact ⟨ret_int (by rw [HA.out]; omega), rfl⟩
end Go.Proofs.Ytjnpdepgmgdhdaa

/- Contracts of IsBitString, IsSymbolString, Weight and Parity (program and reference). -/
import Derived.Test.YtjnpdepgmgdhdaaProg
import Derived.Test.YtjnpdepgmgdhdaaBase
namespace Go.Proofs.Ytjnpdepgmgdhdaa
open Go.RowKit
set_option linter.unusedVariables false

/-- All elements lie between 0 and m. -/
def upTo (m : Int) (xs : List Int) : Bool := xs.all fun b => decide (0 ≤ b ∧ b ≤ m)
theorem upTo_nil (m : Int) : upTo m [] = true := rfl
theorem upTo_step {m x : Int} {xs : List Int} {k : Nat} (h : k < xs.length) (hx : xs.getD k 0 = x) (h0 : 0 ≤ x) (h1 : x ≤ m) (ht : upTo m (xs.take k) = true) : upTo m (xs.take (k + 1)) = true := by
  unfold upTo at *
  rw [take_getD h, List.all_append, ht, hx]
  simp [h0, h1]
theorem upTo_no {m x : Int} {xs : List Int} {k : Nat} (h : k < xs.length) (hx : xs.getD k 0 = x) (hn : ¬ (0 ≤ x ∧ x ≤ m)) : upTo m xs = false := by
  unfold upTo
  rw [List.all_eq_false]
  exact ⟨x, mem_getD h hx, by simpa using hn⟩
theorem upTo_mem {m x : Int} {xs : List Int} (h : upTo m xs = true) (hx : x ∈ xs) : 0 ≤ x ∧ x ≤ m := by
  unfold upTo at h
  simpa using List.all_eq_true.1 h x hx

/-- The number of elements that are 1. -/
def wt (xs : List Int) : Int := xs.foldl (fun n b => if b = 1 then n + 1 else n) 0
theorem wt_nil : wt [] = 0 := rfl
theorem wt_step {x : Int} {xs : List Int} {k : Nat} (h : k < xs.length) (hx : xs.getD k 0 = x) : wt (xs.take (k + 1)) = if x = 1 then wt (xs.take k) + 1 else wt (xs.take k) := foldl_take h hx
theorem wt_fold (xs : List Int) : ∀ n : Int, n ≤ xs.foldl (fun n b => if b = 1 then n + 1 else n) n ∧ xs.foldl (fun n b => if b = 1 then n + 1 else n) n ≤ n + xs.length := by
  induction xs with
  | nil => intro n; simp
  | cons a t ih =>
    intro n
    simp only [List.foldl_cons, List.length_cons]
    by_cases h : a = 1
    · have := ih (n + 1)
      rw [if_pos h]; omega
    · have := ih n
      rw [if_neg h]; omega
theorem wt_bd (xs : List Int) : 0 ≤ wt xs ∧ wt xs ≤ xs.length := by
  have := wt_fold xs 0
  unfold wt; omega

end Go.Proofs.Ytjnpdepgmgdhdaa

/- The plain law of the scrambler: it is its own inverse, and its states recur after 127 steps. -/
import Derived.Test.YtdgffiaciccimaaCScr2
namespace Go.Proofs.Ytdgffiaciccimaa
open Go.RowKit
theorem per_all : ∀ s, s < 128 → 1 ≤ s → (scrN 127 s = s ∧ (List.range 126).all (fun k => scrN (k + 1) s != s) = true) := by decide +kernel
theorem scr_per {s : Nat} (h : 1 ≤ s ∧ s ≤ 127) : scrN 127 s = s := (per_all s (by omega) h.1).1
theorem scr_ne {s k : Nat} (h : 1 ≤ s ∧ s ≤ 127) (hk : k < 126) : scrN (k + 1) s ≠ s := by
  have h1 := List.all_eq_true.1 (per_all s (by omega) h.1).2 k (List.mem_range.2 hk)
  simpa using h1
theorem scr_bit {b o : Nat} (hb : b ≤ 1) (ho : o ≤ 1) : b ^^^ o ≤ 1 ∧ (b ^^^ o) ^^^ o = b := by
  have h1 : b = 0 ∨ b = 1 := by omega
  have h2 : o = 0 ∨ o = 1 := by omega
  rcases h1 with rfl | rfl <;> rcases h2 with rfl | rfl <;> decide
theorem scrL_bits : ∀ (xs : List Int) (s : Nat), upTo 1 xs = true → upTo 1 (scrL s xs) = true ∧ scrL s (scrL s xs) = xs
  | [], s, _ => ⟨rfl, rfl⟩
  | b :: t, s, h => by
    simp only [upTo, List.all_cons, Bool.and_eq_true, decide_eq_true_eq] at h
    obtain ⟨⟨b0, b1⟩, ht⟩ := h
    obtain ⟨i1, i2⟩ := scrL_bits t (nxtS s) ht
    obtain ⟨c1, c2⟩ := scr_bit (b := b.toNat) (o := outS s) (by omega) (outS_le s)
    refine ⟨?_, ?_⟩
    · simp only [scrL, upTo, List.all_cons, Bool.and_eq_true, decide_eq_true_eq]
      exact ⟨⟨by omega, by omega⟩, i1⟩
    · simp only [scrL, Int.toNat_natCast]
      rw [c2, i2, Int.toNat_of_nonneg b0]
theorem scrB_inv (s : Int) (xs : List Int) : scrB s (scrB s xs) = xs := by
  by_cases h : (1 ≤ s ∧ s ≤ 127) ∧ upTo 1 xs = true
  · have h1 := scrL_bits xs s.toNat h.2
    have e1 : scrB s xs = scrL s.toNat xs := if_pos h
    rw [e1]
    unfold scrB
    rw [if_pos ⟨h.1, h1.1⟩]
    exact h1.2
  · have e1 : scrB s xs = xs := if_neg h
    rw [e1, e1]
theorem scrB_out {s : Int} (h : ¬ (1 ≤ s ∧ s ≤ 127)) (xs : List Int) : scrB s xs = xs := if_neg (fun k => h k.1)
end Go.Proofs.Ytdgffiaciccimaa

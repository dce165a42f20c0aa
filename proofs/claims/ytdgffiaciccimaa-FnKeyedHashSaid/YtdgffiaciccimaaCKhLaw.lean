/- The plain law of the keyed hash: one value turned modulo 2147483647 turns the hash. -/
import Derived.Test.YtdgffiaciccimaaCHash
namespace Go.Proofs.Ytdgffiaciccimaa
open Go.RowKit
theorem mul_free {p M v t e : Int} (hk : M * v = p * t + 1) (h : (e * M) % p = 0) (h0 : -p < e) (h1 : e < p) : e = 0 := by
  obtain ⟨q, hq⟩ := Int.dvd_of_emod_eq_zero h
  have hd : e = p * (q * v - e * t) := by
    rw [Int.mul_sub, ← Int.mul_assoc, ← hq, Int.mul_assoc, hk, Int.mul_add, Int.mul_one, Int.mul_left_comm p e t]
    omega
  rcases Int.lt_or_le e 0 with hn | hn
  · have h2 : (-e) % p = 0 := Int.emod_eq_zero_of_dvd (Int.dvd_neg.2 ⟨_, hd⟩)
    rw [Int.emod_eq_of_lt (by omega) (by omega)] at h2
    omega
  · have h2 : e % p = 0 := Int.emod_eq_zero_of_dvd ⟨_, hd⟩
    rwa [Int.emod_eq_of_lt hn h1] at h2
theorem hstep_ne_left {d d' : Int} (v : Int) (h0 : 0 ≤ d ∧ d < 2147483647) (h1 : 0 ≤ d' ∧ d' < 2147483647) (h : d ≠ d') : hstep d v ≠ hstep d' v := by
  unfold hstep
  generalize v % 2147483647 = m
  intro h2
  have h3 := Int.emod_eq_emod_iff_emod_sub_eq_zero.1 h2
  clear h2
  rw [show d * 1000003 + m + 13 - (d' * 1000003 + m + 13) = (d - d') * 1000003 by clear h3; rw [Int.sub_mul]; omega] at h3
  have h4 := mul_free (e := d - d') (p := 2147483647) (M := 1000003) (v := 1523789695) (t := 709572) (by decide) h3 (by clear h3; omega) (by clear h3; omega)
  clear h3
  omega
theorem hstep_ne_right {d v v' : Int} (h : v % 2147483647 ≠ v' % 2147483647) : hstep d v ≠ hstep d v' := by
  unfold hstep
  have b1 := Int.emod_nonneg v (show (2147483647 : Int) ≠ 0 by decide)
  have b2 := Int.emod_lt_of_pos v (show (0 : Int) < 2147483647 by decide)
  have b3 := Int.emod_nonneg v' (show (2147483647 : Int) ≠ 0 by decide)
  have b4 := Int.emod_lt_of_pos v' (show (0 : Int) < 2147483647 by decide)
  generalize v % 2147483647 = m at *
  generalize v' % 2147483647 = m' at *
  intro h2
  have h3 := Int.emod_eq_emod_iff_emod_sub_eq_zero.1 h2
  clear h2
  rw [show d * 1000003 + m + 13 - (d * 1000003 + m' + 13) = (m - m') * 1 by clear h3; omega] at h3
  have h4 := mul_free (e := m - m') (p := 2147483647) (M := 1) (v := 1) (t := 0) (by decide) h3 (by clear h3; omega) (by clear h3; omega)
  clear h3
  omega
theorem fold_ne : ∀ (xs : List Int) {d d' : Int}, 0 ≤ d ∧ d < 2147483647 → 0 ≤ d' ∧ d' < 2147483647 → d ≠ d' → xs.foldl hstep d ≠ xs.foldl hstep d'
  | [], _, _, _, _, h => h
  | v :: t, d, d', h0, h1, h => fold_ne t (hstep_bd d v) (hstep_bd d' v) (hstep_ne_left v h0 h1 h)
theorem hsh_ne (a b : List Int) {x y : Int} (h : x % 2147483647 ≠ y % 2147483647) : hsh (a ++ x :: b) ≠ hsh (a ++ y :: b) := by
  unfold hsh
  rw [List.foldl_append, List.foldl_append]
  exact fold_ne b (hstep_bd _ _) (hstep_bd _ _) (hstep_ne_right h)
theorem khsh_set {key : Int} {l : List Int} {i : Nat} {v : Int} (hi : i < l.length) (h : v % 2147483647 ≠ l.getD i 0 % 2147483647) : khsh key (l.set i v) ≠ khsh key l := by
  have e1 : l.set i v = l.take i ++ v :: l.drop (i + 1) := List.set_eq_take_append_cons_drop.trans (if_pos hi)
  have e2 : l = l.take i ++ l.getD i 0 :: l.drop (i + 1) := by
    rw [List.getD_eq_getElem?_getD, List.getElem?_eq_getElem hi, Option.getD_some, ← List.drop_eq_getElem_cons hi, List.take_append_drop]
  unfold khsh
  conv => rhs; rw [e2]
  rw [e1]
  have := hsh_ne ([key] ++ l.take i) (l.drop (i + 1) ++ [key]) h
  simpa [List.append_assoc] using this
/-- What the statement lays in the place of one value. -/
theorem turned (x : Int) {a : Nat} (ha : a < 256) : ((x + 1 + (a : Int)) % 2147483647) % 2147483647 ≠ x % 2147483647 := by
  rw [Int.emod_emod]
  intro h2
  have h3 := Int.emod_eq_emod_iff_emod_sub_eq_zero.1 h2
  clear h2
  rw [show x + 1 + (a : Int) - x = (1 + (a : Int)) * 1 by clear h3; omega] at h3
  have h4 := mul_free (e := 1 + (a : Int)) (p := 2147483647) (M := 1) (v := 1) (t := 0) (by decide) h3 (by clear h3; omega) (by clear h3; omega)
  clear h3
  omega
end Go.Proofs.Ytdgffiaciccimaa

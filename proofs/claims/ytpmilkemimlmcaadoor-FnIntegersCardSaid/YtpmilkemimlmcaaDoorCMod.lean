/- Contracts of Mod (program and reference): both return the mathematical remainder, or 0 where the modulus is out of range. -/
import Derived.Test.YtpmilkemimlmcaaDoorProg
import Derived.Test.YtpmilkemimlmcaaDoorBase
namespace Go.Proofs.YtpmilkemimlmcaaDoor
open Go.RowKit
set_option linter.unusedVariables false

/-- What Mod computes. -/
def modI (p q : Int) : Int := if 1 ≤ q ∧ q ≤ 1000000000000 then p % q else 0

theorem modI_in {p q : Int} (h1 : 1 ≤ q) (h2 : q ≤ 1000000000000) : modI p q = p % q := if_pos ⟨h1, h2⟩

theorem tmod_neg {p q : Int} (h0 : p < 0) (h1 : 1 ≤ q) : -q < p.tmod q ∧ p.tmod q ≤ 0 ∧ (p.tmod q = 0 ∧ p % q = 0 ∨ p.tmod q < 0 ∧ p % q = p.tmod q + q) := by
  have h2 : p.tmod q = -((-p) % q) := by
    have e : p = -(-p) := by omega
    conv => lhs; rw [e, Int.neg_tmod, Int.tmod_eq_emod_of_nonneg (by omega)]
  have h3 := Int.emod_nonneg (-p) (show q ≠ 0 by omega)
  have h4 := Int.emod_lt_of_pos (-p) (show 0 < q by omega)
  have h5 := Int.emod_nonneg p (show q ≠ 0 by omega)
  have h6 := Int.emod_lt_of_pos p (show 0 < q by omega)
  have h7 : (p % q + (-p) % q) % q = 0 := by rw [← Int.add_emod]; simp [Int.add_right_neg]
  refine ⟨by omega, by omega, ?_⟩
  rw [h2]
  rcases Int.lt_or_le (p % q + (-p) % q) q with h8 | h8
  · rw [Int.emod_eq_of_lt (by omega) h8] at h7
    left; omega
  · have h9 : (p % q + (-p) % q - q) % q = 0 := by rw [Int.sub_emod_right]; exact h7
    rw [Int.emod_eq_of_lt (by omega) (by omega)] at h9
    right; omega

set_option maxHeartbeats 400000 in
theorem impl_Mod (p q : Int) (w : World) (hp : -9223372036854775808 ≤ p ∧ p ≤ 9223372036854775807) (hq : -9223372036854775808 ≤ q ∧ q ≤ 9223372036854775807) :
    Calls Tryd.prog 13 #[.int .i64 p, .int .i64 q] w fun e w' => e = .returned (.int .i64 (modI p q)) ∧ w = w' := by
  obtain ⟨lp, up⟩ := hp
  obtain ⟨lq, uq⟩ := hq
  by_cases t1 : 1 ≤ q
  · by_cases t2 : q ≤ 1000000000000
    · have hm := modI_in (p := p) t1 t2
      by_cases t0 : 0 ≤ p
      · have hn := Int.emod_nonneg p (show q ≠ 0 by omega)
        have hl := Int.emod_lt_of_pos p (show 0 < q by omega)
        rw [hm]
        clear hm
        go_enter Tryd.func13, Tryd.ntmps13
        go_wp2
        go_ret
        exact ⟨rfl, rfl⟩
      · obtain ⟨h1, h2, h3⟩ := tmod_neg (p := p) (q := q) (by omega) t1
        rw [hm]
        clear hm
        rcases h3 with ⟨h4, h5⟩ | ⟨h4, h5⟩
        · rw [h5]
          have H := Lib.hid h4
          have h6 : 0 ≤ p.tmod q := by omega
          clear h4 h5
          go_enter Tryd.func13, Tryd.ntmps13
          go_wp2
          go_ret
          refine ⟨?_, rfl⟩
          simp [H.out]
        · rw [h5]
          clear h5
          go_enter Tryd.func13, Tryd.ntmps13
          go_wp2
          go_ret
          exact ⟨rfl, rfl⟩
    · have hm : modI p q = 0 := if_neg (by omega)
      rw [hm]
      clear hm
      go_enter Tryd.func13, Tryd.ntmps13
      go_wp2
      go_ret
      exact ⟨rfl, rfl⟩
  · have hm : modI p q = 0 := if_neg (by omega)
    rw [hm]
    clear hm
    go_enter Tryd.func13, Tryd.ntmps13
    go_wp2
    go_ret
    exact ⟨rfl, rfl⟩
end Go.Proofs.YtpmilkemimlmcaaDoor

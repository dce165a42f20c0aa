/- Contracts of Min, Max, LongestRun and HammingDistance (program and reference). -/
import Derived.Test.YtgeodanhjglkhaaProg
import Derived.Test.YtgeodanhjglkhaaBase
import Derived.Deep.QuietTactic
import Derived.BigQuiet
namespace Go.Proofs.Ytgeodanhjglkhaa
open Go.RowKit
set_option linter.unusedVariables false

def mxI (a b : Int) : Int := if a < b then b else a
def mnI (a b : Int) : Int := if b < a then b else a
theorem spec_Max (a b : Int) (w : World) :
    Calls Try.prog 49 #[.int .i64 a, .int .i64 b] w fun e w' => e = .returned (.int .i64 (mxI a b)) ∧ w = w' := by
  by_cases h : a < b
  · rw [show mxI a b = b from if_pos h]
    go_enter Try.func49, Try.ntmps49
    go_wp2
    go_ret
    exact ⟨rfl, rfl⟩
  · rw [show mxI a b = a from if_neg h]
    go_enter Try.func49, Try.ntmps49
    go_wp2
    go_ret
    exact ⟨rfl, rfl⟩
theorem spec_Min (a b : Int) (w : World) :
    Calls Try.prog 51 #[.int .i64 a, .int .i64 b] w fun e w' => e = .returned (.int .i64 (mnI a b)) ∧ w = w' := by
  by_cases h : b < a
  · rw [show mnI a b = b from if_pos h]
    go_enter Try.func51, Try.ntmps51
    go_wp2
    go_ret
    exact ⟨rfl, rfl⟩
  · rw [show mnI a b = a from if_neg h]
    go_enter Try.func51, Try.ntmps51
    go_wp2
    go_ret
    exact ⟨rfl, rfl⟩
theorem impl_Max (a b : Int) (w : World) :
    Calls Try.prog 50 #[.int .i64 a, .int .i64 b] w fun e w' => e = .returned (.int .i64 (mxI a b)) ∧ w = w' := by
  by_cases h : a < b
  · rw [show mxI a b = b from if_pos h]
    go_enter Try.func50, Try.ntmps50
    go_wp2
    go_ret
    exact ⟨rfl, rfl⟩
  · rw [show mxI a b = a from if_neg h]
    go_enter Try.func50, Try.ntmps50
    go_wp2
    go_ret
    exact ⟨rfl, rfl⟩
theorem impl_Min (a b : Int) (w : World) :
    Calls Try.prog 52 #[.int .i64 a, .int .i64 b] w fun e w' => e = .returned (.int .i64 (mnI a b)) ∧ w = w' := by
  by_cases h : b < a
  · rw [show mnI a b = b from if_pos h]
    go_enter Try.func52, Try.ntmps52
    go_wp2
    go_ret
    exact ⟨rfl, rfl⟩
  · rw [show mnI a b = a from if_neg h]
    go_enter Try.func52, Try.ntmps52
    go_wp2
    go_ret
    exact ⟨rfl, rfl⟩

theorem below_drawn {B : Nat} {a w : World} (h : Below B a w) (n : Nat) : Below B a (w.drewN n) := ⟨h.os, h.tape, h.output, h.size, h.block⟩
/-- The longest run so far and the present one, behind k elements. -/
def runs (xs : List Int) : Nat → Int × Int
  | 0 => (0, 0)
  | k + 1 => if 0 < k ∧ xs.getD k 0 = xs.getD (k - 1) 0 then (mxI (runs xs k).1 ((runs xs k).2 + 1), (runs xs k).2 + 1) else (mxI (runs xs k).1 1, 1)
theorem mxI_bd {a b n : Int} (ha : 0 ≤ a ∧ a ≤ n) (hb : 0 ≤ b ∧ b ≤ n) : 0 ≤ mxI a b ∧ mxI a b ≤ n := by unfold mxI; split <;> omega
theorem runs_bd (xs : List Int) : ∀ k : Nat, (0 ≤ (runs xs k).1 ∧ (runs xs k).1 ≤ k) ∧ 0 ≤ (runs xs k).2 ∧ (runs xs k).2 ≤ k
  | 0 => by simp [runs]
  | k + 1 => by
    have ih := runs_bd xs k
    rw [runs]
    split
    · exact ⟨mxI_bd (by omega) (by omega), by omega, by omega⟩
    · exact ⟨mxI_bd (by omega) (by omega), by omega, by omega⟩
theorem runs_yes {xs : List Int} {k : Nat} (h0 : 0 < k) (h : xs.getD k 0 = xs.getD (k - 1) 0) : runs xs (k + 1) = (mxI (runs xs k).1 ((runs xs k).2 + 1), (runs xs k).2 + 1) := by rw [runs, if_pos ⟨h0, h⟩]
theorem runs_no {xs : List Int} {k : Nat} (h : ¬ (0 < k ∧ xs.getD k 0 = xs.getD (k - 1) 0)) : runs xs (k + 1) = (mxI (runs xs k).1 1, 1) := by rw [runs, if_neg h]
def longest (xs : List Int) : Int := (runs xs xs.length).1

set_option maxHeartbeats 1600000 in
theorem spec_LongestRun (u : Value) (xs : List Int) (w : World) (hu : Rd .i64 w u xs) :
    Calls Try.prog 39 #[u] w fun e w' => e = .returned (.int .i64 (longest xs)) ∧ Below w.heap.size w w' := by
  have lx := hu.len_le
  rcases hu.parts with ⟨rfl, a, c, rfl⟩ | ⟨h0, b, off, c, rfl⟩
  · clear hu
    go_enter Try.func39, Try.ntmps39
    go_wp2
    go_rounds 1
    go_ret
    exact ⟨rfl, Below.refl _ _⟩
  · go_enter Try.func39, Try.ntmps39
    go_wp2
    go_loopw [3, 4, 5] (fun m r i wr => ∃ k : Nat, k ≤ xs.length ∧ i = .int .i64 k ∧ m = .int .i64 (runs xs k).1 ∧ r = .int .i64 (runs xs k).2 ∧ Below w.heap.size w wr) (fun _ _ i _ => xs.length - (intOf i).toNat)
    case atStart => exact ⟨0, Nat.zero_le _, rfl, rfl, rfl, Below.refl _ _⟩
    case round =>
      obtain ⟨k, hk, rfl, rfl, rfl, hbw⟩ := hrel
      obtain ⟨⟨q0, q1⟩, q2, q3⟩ := runs_bd xs k
      have hy := fun h0 h => @runs_yes xs k h0 h
      have hn := fun h => @runs_no xs k h
      obtain ⟨m, hm⟩ : ∃ m, m = (runs xs k).1 := ⟨_, rfl⟩
      obtain ⟨r, hr⟩ : ∃ r, r = (runs xs k).2 := ⟨_, rfl⟩
      rw [← hm] at q0 q1 ⊢
      rw [← hr] at q2 q3 ⊢
      rw [← hm, ← hr] at hy
      rw [← hm] at hn
      have HM := Lib.hid hm
      have HY := Lib.hid hy
      have HN := Lib.hid hn
      clear hm hr hy hn
      by_cases hlt : k < xs.length
      · obtain ⟨x, hb, HX, g1, x0, x1⟩ := hu.elem64 hbw hlt
        by_cases hk0 : k = 0
        · subst hk0
          have g1' : wr.cell? ⟨b, off, none⟩ = some (.int .i64 x) := g1
          have hnn := HN.out (by omega)
          have HNN := Lib.hid hnn
          clear hnn HN HY
          go_wp2_with fail
          go_quiet (fail)
          go_wp2_with (go_at_call 49; refine (spec_Max _ _ _).mono ?_; rintro e w' ⟨rfl, rfl⟩)
          go_roundw
          case rel => exact ⟨1, by omega, by go_num, by rw [HNN.out], by rw [HNN.out], (below_drawn hbw _)⟩
          case measure => simp [intOf]; omega
        · obtain ⟨k', rfl⟩ : ∃ k', k = k' + 1 := ⟨k - 1, by omega⟩
          obtain ⟨y, hb', HY', g2, y0, y1⟩ := hu.elem64 (j := k') hbw (by omega)
          have hkk : (1 : Nat) ≤ k' + 1 := by omega
          by_cases he : x = y
          · subst he
            have hyy := HY.out (by omega) (by rw [HX.out]; exact HY'.out.symm)
            have HYY := Lib.hid hyy
            clear hyy HN HY
            go_wp2_with fail
            go_quiet (fail)
            go_wp2_with (go_at_call 49; refine (spec_Max _ _ _).mono ?_; rintro e w' ⟨rfl, rfl⟩)
            go_roundw
            case rel => exact ⟨k' + 1 + 1, by omega, by go_num, by rw [HYY.out], by rw [HYY.out], (below_drawn hbw _)⟩
            case measure => simp [intOf]; omega
          · have hnn := HN.out (by rw [HX.out]; rintro ⟨_, h⟩; exact he (h.trans HY'.out))
            have hne : (x == y) = false := by simpa using he
            have HNN := Lib.hid hnn
            clear hnn HN HY he
            go_wp2_with fail
            go_quiet (fail)
            go_wp2_with (go_at_call 49; refine (spec_Max _ _ _).mono ?_; rintro e w' ⟨rfl, rfl⟩)
            go_roundw
            case rel => exact ⟨k' + 1 + 1, by omega, by go_num, by rw [HNN.out], by rw [HNN.out], (below_drawn hbw _)⟩
            case measure => simp [intOf]; omega
      · have hke : k = xs.length := by omega
        subst hke
        go_wp2
        go_ret
        exact ⟨ret_int HM.out, hbw⟩
set_option maxHeartbeats 1600000 in
theorem impl_LongestRun (u : Value) (xs : List Int) (w : World) (hu : Rd .i64 w u xs) :
    Calls Try.prog 40 #[u] w fun e w' => e = .returned (.int .i64 (longest xs)) ∧ Below w.heap.size w w' := by
  have lx := hu.len_le
  rcases hu.parts with ⟨rfl, a, c, rfl⟩ | ⟨h0, b, off, c, rfl⟩
  · clear hu
    go_enter Try.func40, Try.ntmps40
    go_wp2
    go_rounds 1
    go_ret
    exact ⟨rfl, Below.refl _ _⟩
  · go_enter Try.func40, Try.ntmps40
    go_wp2
    go_loopw [3, 4, 9] (fun m r i wr => ∃ k : Nat, k ≤ xs.length ∧ i = .int .i64 k ∧ m = .int .i64 (runs xs k).1 ∧ r = .int .i64 (runs xs k).2 ∧ Below w.heap.size w wr) (fun _ _ i _ => xs.length - (intOf i).toNat)
    case atStart => exact ⟨0, Nat.zero_le _, rfl, rfl, rfl, Below.refl _ _⟩
    case round =>
      obtain ⟨k, hk, rfl, rfl, rfl, hbw⟩ := hrel
      obtain ⟨⟨q0, q1⟩, q2, q3⟩ := runs_bd xs k
      have hy := fun h0 h => @runs_yes xs k h0 h
      have hn := fun h => @runs_no xs k h
      obtain ⟨m, hm⟩ : ∃ m, m = (runs xs k).1 := ⟨_, rfl⟩
      obtain ⟨r, hr⟩ : ∃ r, r = (runs xs k).2 := ⟨_, rfl⟩
      rw [← hm] at q0 q1 ⊢
      rw [← hr] at q2 q3 ⊢
      rw [← hm, ← hr] at hy
      rw [← hm] at hn
      have HM := Lib.hid hm
      have HY := Lib.hid hy
      have HN := Lib.hid hn
      clear hm hr hy hn
      by_cases hlt : k < xs.length
      · obtain ⟨x, hb, HX, g1, x0, x1⟩ := hu.elem64 hbw hlt
        by_cases hk0 : k = 0
        · subst hk0
          have g1' : wr.cell? ⟨b, off, none⟩ = some (.int .i64 x) := g1
          have hnn := HN.out (by omega)
          have HNN := Lib.hid hnn
          clear hnn HN HY
          go_wp2_with (go_at_call 50; refine (impl_Max _ _ _).mono ?_; rintro e w' ⟨rfl, rfl⟩)
          go_roundw
          case rel => exact ⟨1, by omega, by go_num, by rw [HNN.out], by rw [HNN.out], hbw⟩
          case measure => simp [intOf]; omega
        · obtain ⟨k', rfl⟩ : ∃ k', k = k' + 1 := ⟨k - 1, by omega⟩
          obtain ⟨y, hb', HY', g2, y0, y1⟩ := hu.elem64 (j := k') hbw (by omega)
          have hkk : (1 : Nat) ≤ k' + 1 := by omega
          by_cases he : x = y
          · subst he
            have hyy := HY.out (by omega) (by rw [HX.out]; exact HY'.out.symm)
            have HYY := Lib.hid hyy
            clear hyy HN HY
            go_wp2_with (go_at_call 50; refine (impl_Max _ _ _).mono ?_; rintro e w' ⟨rfl, rfl⟩)
            go_roundw
            case rel => exact ⟨k' + 1 + 1, by omega, by go_num, by rw [HYY.out], by rw [HYY.out], hbw⟩
            case measure => simp [intOf]; omega
          · have hnn := HN.out (by rw [HX.out]; rintro ⟨_, h⟩; exact he (h.trans HY'.out))
            have hne : (x == y) = false := by simpa using he
            have HNN := Lib.hid hnn
            clear hnn HN HY he
            go_wp2_with (go_at_call 50; refine (impl_Max _ _ _).mono ?_; rintro e w' ⟨rfl, rfl⟩)
            go_roundw
            case rel => exact ⟨k' + 1 + 1, by omega, by go_num, by rw [HNN.out], by rw [HNN.out], hbw⟩
            case measure => simp [intOf]; omega
      · have hke : k = xs.length := by omega
        subst hke
        go_wp2
        go_ret
        exact ⟨ret_int HM.out, hbw⟩
end Go.Proofs.Ytgeodanhjglkhaa

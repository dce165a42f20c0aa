/- Contracts of EqualBytes and EqualInts (program and reference) and of the laws' sameBytes and sameInts. -/
import Derived.Test.YtjnpdepgmgdhdaaCEq
namespace Go.Proofs.Ytjnpdepgmgdhdaa
open Go.RowKit
set_option linter.unusedVariables false

set_option maxHeartbeats 800000 in
theorem laws_sameBytes (u v : Value) (xs ys : List Int) (w : World) (hu : Rd .u8 w u xs) (hv : Rd .u8 w v ys) :
    Calls Try.prog 33 #[u, v] w fun e w' => e = .returned (.bool (decide (xs = ys))) ∧ Below w.heap.size w w' := by
  have lx := hu.len_le
  have ly := hv.len_le
  by_cases hl : xs.length = ys.length
  · have HL := Lib.hid hl
    rcases hu.parts with ⟨rfl, a, c, rfl⟩ | ⟨h0, b, off, c, rfl⟩
    · have hy : ys = [] := List.eq_nil_of_length_eq_zero (by simpa using hl.symm)
      subst hy
      obtain ⟨a', c', rfl⟩ := hv.shape
      clear hl hu hv HL
      go_enter Try.func33, Try.ntmps33
      go_wp2
      go_rounds 1
      go_ret
      exact ⟨by simp, Below.refl _ _⟩
    · rcases hv.parts with ⟨rfl, -⟩ | ⟨h0', b', off', c', rfl⟩
      · simp only [List.length_nil] at hl; omega
      have hle : ((xs.length : Int) != (ys.length : Int)) = false := by simp; omega
      have hle1 : xs.length ≤ ys.length := by omega
      have hle2 : ys.length ≤ xs.length := by omega
      clear hl
      go_enter Try.func33, Try.ntmps33
      go_wp2
      go_loopw [5] (fun i wr => ∃ k : Nat, k ≤ xs.length ∧ i = .int .i64 k ∧ xs.take k = ys.take k ∧ Below w.heap.size w wr) (fun i _ => xs.length - (intOf i).toNat)
      case atStart => exact ⟨0, Nat.zero_le _, rfl, by simp, Below.refl _ _⟩
      case round =>
        obtain ⟨k, hk, rfl, ht, hbw⟩ := hrel
        have HT := Lib.hid ht
        clear ht
        by_cases hlt : k < xs.length
        · obtain ⟨x, hb, HX, g1, -, -⟩ := hu.elem8 hbw hlt
          obtain ⟨y, hb', HY, g2, -, -⟩ := hv.elem8 (j := k) hbw (by omega)
          go_wp2
          go_region
          all_goals go_wp2
          · have ht : (x != y) = true := by assumption
            go_ret
            exact ⟨by rw [decide_eq_false (ne_of_getD (k := k) (by rw [HX.out, HY.out]; simpa using ht))]; rfl, hbw.drew⟩
          · have ht : (x != y) = false := by assumption
            go_roundw
            case rel => exact ⟨k + 1, by omega, by go_num, take_succ_eq hlt (by omega) HT.out (by rw [HX.out, HY.out]; simpa using ht), hbw.drew⟩
            case measure => simp [intOf]; omega
        · go_wp2
          go_ret
          refine ⟨?_, hbw⟩
          rw [decide_eq_true]; rfl
          have h1 := HT.out
          have h2 := HL.out
          rwa [List.take_of_length_le (by omega), List.take_of_length_le (by omega)] at h1
  · have hle : ((xs.length : Int) != (ys.length : Int)) = true := by simp; omega
    rw [decide_eq_false (fun h => hl (by rw [h]))]
    clear hl
    obtain ⟨a, c, rfl⟩ := hu.shape
    obtain ⟨a', c', rfl⟩ := hv.shape
    go_enter Try.func33, Try.ntmps33
    go_wp2
    go_ret
    exact ⟨rfl, Below.refl _ _⟩
set_option maxHeartbeats 800000 in
theorem laws_sameInts (u v : Value) (xs ys : List Int) (w : World) (hu : Rd .i64 w u xs) (hv : Rd .i64 w v ys) :
    Calls Try.prog 35 #[u, v] w fun e w' => e = .returned (.bool (decide (xs = ys))) ∧ Below w.heap.size w w' := by
  have lx := hu.len_le
  have ly := hv.len_le
  by_cases hl : xs.length = ys.length
  · have HL := Lib.hid hl
    rcases hu.parts with ⟨rfl, a, c, rfl⟩ | ⟨h0, b, off, c, rfl⟩
    · have hy : ys = [] := List.eq_nil_of_length_eq_zero (by simpa using hl.symm)
      subst hy
      obtain ⟨a', c', rfl⟩ := hv.shape
      clear hl hu hv HL
      go_enter Try.func35, Try.ntmps35
      go_wp2
      go_rounds 1
      go_ret
      exact ⟨by simp, Below.refl _ _⟩
    · rcases hv.parts with ⟨rfl, -⟩ | ⟨h0', b', off', c', rfl⟩
      · simp only [List.length_nil] at hl; omega
      have hle : ((xs.length : Int) != (ys.length : Int)) = false := by simp; omega
      have hle1 : xs.length ≤ ys.length := by omega
      have hle2 : ys.length ≤ xs.length := by omega
      clear hl
      go_enter Try.func35, Try.ntmps35
      go_wp2
      go_loopw [5] (fun i wr => ∃ k : Nat, k ≤ xs.length ∧ i = .int .i64 k ∧ xs.take k = ys.take k ∧ Below w.heap.size w wr) (fun i _ => xs.length - (intOf i).toNat)
      case atStart => exact ⟨0, Nat.zero_le _, rfl, by simp, Below.refl _ _⟩
      case round =>
        obtain ⟨k, hk, rfl, ht, hbw⟩ := hrel
        have HT := Lib.hid ht
        clear ht
        by_cases hlt : k < xs.length
        · obtain ⟨x, hb, HX, g1, -, -⟩ := hu.elem64 hbw hlt
          obtain ⟨y, hb', HY, g2, -, -⟩ := hv.elem64 (j := k) hbw (by omega)
          go_wp2
          go_region
          all_goals go_wp2
          · have ht : (x != y) = true := by assumption
            go_ret
            exact ⟨by rw [decide_eq_false (ne_of_getD (k := k) (by rw [HX.out, HY.out]; simpa using ht))]; rfl, hbw.drew⟩
          · have ht : (x != y) = false := by assumption
            go_roundw
            case rel => exact ⟨k + 1, by omega, by go_num, take_succ_eq hlt (by omega) HT.out (by rw [HX.out, HY.out]; simpa using ht), hbw.drew⟩
            case measure => simp [intOf]; omega
        · go_wp2
          go_ret
          refine ⟨?_, hbw⟩
          rw [decide_eq_true]; rfl
          have h1 := HT.out
          have h2 := HL.out
          rwa [List.take_of_length_le (by omega), List.take_of_length_le (by omega)] at h1
  · have hle : ((xs.length : Int) != (ys.length : Int)) = true := by simp; omega
    rw [decide_eq_false (fun h => hl (by rw [h]))]
    clear hl
    obtain ⟨a, c, rfl⟩ := hu.shape
    obtain ⟨a', c', rfl⟩ := hv.shape
    go_enter Try.func35, Try.ntmps35
    go_wp2
    go_ret
    exact ⟨rfl, Below.refl _ _⟩
end Go.Proofs.Ytjnpdepgmgdhdaa

/- Contracts of BitsToInt (program and reference). -/
import Derived.Test.YtgaoiljedfogjaaCBits
import Derived.Test.YtgaoiljedfogjaaCScr
namespace Go.Proofs.Ytgaoiljedfogjaa
open Go.RowKit
set_option linter.unusedVariables false

/-- The number of the first k bits. -/
def bvN (xs : List Int) : Nat → Nat
  | 0 => 0
  | k + 1 => bvN xs k + (xs.getD k 0).toNat * 2 ^ k
def b2i (xs : List Int) : Nat := if upTo 1 xs = true ∧ xs.length ≤ 40 then bvN xs xs.length else 0
theorem bvN_lt {xs : List Int} (h : upTo 1 xs = true) : ∀ k, k ≤ xs.length → bvN xs k < 2 ^ k
  | 0, _ => by simp [bvN]
  | k + 1, hk => by
    have h1 := bvN_lt h k (by omega)
    have h2 := upTo_mem h (mem_getD (show k < xs.length by omega) rfl)
    have h3 : (xs.getD k 0).toNat * 2 ^ k ≤ 1 * 2 ^ k := Nat.mul_le_mul_right _ (by omega)
    rw [bvN, Nat.pow_succ]
    omega
theorem or_add {n b k : Nat} (h : n < 2 ^ k) : n ||| (b * 2 ^ k) = n + b * 2 ^ k := by
  rw [Nat.or_comm, Nat.mul_comm b, ← Nat.two_pow_add_eq_or_of_lt h]
  omega
theorem pow40 {k : Nat} (h : k ≤ 40) : 2 ^ k ≤ 1099511627776 := Nat.le_trans (Nat.pow_le_pow_right (by omega) h) (by decide)
theorem or_bits {n b k : Nat} (hk : k < 40) (hn : n < 2 ^ k) (hb : b ≤ 1) : bits .or .i64 (n : Int) ((b : Int) * 2 ^ k) = ((n + b * 2 ^ k : Nat) : Int) := by
  have e : (b : Int) * 2 ^ k = ((b * 2 ^ k : Nat) : Int) := by simp
  have h1 := pow40 (show k ≤ 40 by omega)
  have h2 : b * 2 ^ k ≤ 1 * 2 ^ k := Nat.mul_le_mul_right _ hb
  rw [e, i64_or_nat _ _ (by omega) (by omega), or_add hn]
theorem b2i_lt (xs : List Int) : b2i xs < 1099511627776 := by
  unfold b2i; split
  · next h => exact Nat.lt_of_lt_of_le (bvN_lt h.1 _ (Nat.le_refl _)) (pow40 h.2)
  · omega

set_option maxHeartbeats 1600000 in
theorem spec_BitsToInt (u : Value) (xs : List Int) (w : World) (hu : Rd .i64 w u xs) :
    Calls Try.prog 23 #[u] w fun e w' => e = .returned (.int .i64 ((b2i xs : Nat) : Int)) ∧ Below w.heap.size w w' := by
  have lx := hu.len_le
  by_cases hb : upTo 1 xs = true
  · have cb := fun v W hv => spec_IsBitString v xs W hv
    rw [hb] at cb
    have CB := Lib.hid cb
    have HB := Lib.hid hb
    clear cb
    by_cases hl : xs.length ≤ 40
    · rw [show b2i xs = bvN xs xs.length from if_pos ⟨hb, hl⟩]
      clear hb
      rcases hu.parts with ⟨h0, a, c, rfl⟩ | ⟨h0, b, off, c, rfl⟩
      · have H0 := Lib.hid h0
        clear h0
        go_enter Try.func23, Try.ntmps23
        go_wp2_with fail
        refine (CB.out _ _ hu).mono ?_
        rintro e w1 ⟨rfl, b1⟩
        go_wp2_with fail
        go_rounds 1
        go_ret
        exact ⟨ret_int (by rw [H0.out]; rfl), b1⟩
      · go_enter Try.func23, Try.ntmps23
        go_wp2_with fail
        refine (CB.out _ _ hu).mono ?_
        rintro e w1 ⟨rfl, b1⟩
        go_wp2_with fail
        go_loopw [3, 4] (fun m i wr => ∃ k : Nat, k ≤ xs.length ∧ i = .int .i64 k ∧ m = .int .i64 ((bvN xs k : Nat) : Int) ∧ Below w.heap.size w wr) (fun _ i _ => xs.length - (intOf i).toNat)
        case atStart => exact ⟨0, Nat.zero_le _, rfl, rfl, b1⟩
        case round =>
          obtain ⟨k, hk, rfl, rfl, hbw⟩ := hrel
          have hq := bvN_lt HB.out k hk
          have HQ := Lib.hid hq
          have HS : Hid (bvN xs (k + 1) = bvN xs k + (xs.getD k 0).toNat * 2 ^ k) := Lib.hid rfl
          obtain ⟨q, hq1⟩ : ∃ q, q = bvN xs k := ⟨_, rfl⟩
          have HQ1 := Lib.hid hq1
          rw [← hq1] at hq HQ HS ⊢
          clear hq1 hq
          by_cases hlt : k < xs.length
          · obtain ⟨x, hb, HX, g1, -, -⟩ := hu.elem64 (j := k) hbw hlt
            have hx := upTo_mem HB.out (mem_getD hlt HX.out)
            obtain ⟨x, rfl⟩ := Int.eq_ofNat_of_zero_le hx.1
            have hx1 : x ≤ 1 := by omega
            have eo := or_bits (show k < 40 by omega) HQ.out hx1
            have hp := pow40 (show k ≤ 40 by omega)
            have e2 : (x : Int) * 2 ^ k = ((x * 2 ^ k : Nat) : Int) := by simp
            have h3 : x * 2 ^ k ≤ 1 * 2 ^ k := Nat.mul_le_mul_right _ hx1
            have s0 : 0 ≤ (x : Int) * 2 ^ k := by rw [e2]; exact Int.natCast_nonneg _
            have s1 : (x : Int) * 2 ^ k ≤ 1099511627776 := by rw [e2]; exact Int.ofNat_le.2 (Nat.le_trans h3 (by rw [Nat.one_mul]; exact hp))
            have hi1 : (0 : Int) ≤ (k : Int) := by omega
            have hi2 : (k : Int) < 64 := by omega
            obtain ⟨r, hr⟩ : ∃ r, r = q + x * 2 ^ k := ⟨_, rfl⟩
            have HR : Hid (bvN xs (k + 1) = r) := Lib.hid (by rw [HS.out, HX.out, hr]; rfl)
            rw [← hr] at eo
            clear hr e2 h3 hp hx
            go_wp2
            go_roundw
            case rel => exact ⟨k + 1, by omega, by go_num, by rw [HR.out], hbw⟩
            case measure => simp [intOf]; omega
          · have hke : k = xs.length := by omega
            subst hke
            go_wp2
            go_ret
            exact ⟨ret_int (by rw [HQ1.out]), hbw⟩
    · rw [show b2i xs = 0 from if_neg (fun z => hl z.2)]
      obtain ⟨a, c, rfl⟩ := hu.shape
      have hl1 : (40 : Int) < (xs.length : Int) := by omega
      clear hb
      go_enter Try.func23, Try.ntmps23
      go_wp2_with fail
      refine (CB.out _ _ hu).mono ?_
      rintro e w1 ⟨rfl, b1⟩
      go_wp2_with fail
      go_ret
      exact ⟨rfl, b1⟩
  · rw [show b2i xs = 0 from if_neg (fun z => hb z.1)]
    have hb' : upTo 1 xs = false := by simpa using hb
    have cb := fun v W hv => spec_IsBitString v xs W hv
    rw [hb'] at cb
    have CB := Lib.hid cb
    clear cb hb' hb
    obtain ⟨a, c, rfl⟩ := hu.shape
    go_enter Try.func23, Try.ntmps23
    go_wp2_with fail
    refine (CB.out _ _ hu).mono ?_
    rintro e w1 ⟨rfl, b1⟩
    go_wp2_with fail
    go_ret
    exact ⟨rfl, b1⟩
set_option maxHeartbeats 1600000 in
theorem impl_BitsToInt (u : Value) (xs : List Int) (w : World) (hu : Rd .i64 w u xs) :
    Calls Try.prog 24 #[u] w fun e w' => e = .returned (.int .i64 ((b2i xs : Nat) : Int)) ∧ Below w.heap.size w w' := by
  have lx := hu.len_le
  by_cases hb : upTo 1 xs = true
  · have cb := fun v W hv => impl_IsBitString v xs W hv
    rw [hb] at cb
    have CB := Lib.hid cb
    have HB := Lib.hid hb
    clear cb
    by_cases hl : xs.length ≤ 40
    · rw [show b2i xs = bvN xs xs.length from if_pos ⟨hb, hl⟩]
      clear hb
      rcases hu.parts with ⟨h0, a, c, rfl⟩ | ⟨h0, b, off, c, rfl⟩
      · have H0 := Lib.hid h0
        clear h0
        go_enter Try.func24, Try.ntmps24
        go_wp2_with fail
        refine (CB.out _ _ hu).mono ?_
        rintro e w1 ⟨rfl, b1⟩
        go_wp2_with fail
        go_rounds 1
        go_ret
        exact ⟨ret_int (by rw [H0.out]; rfl), b1⟩
      · go_enter Try.func24, Try.ntmps24
        go_wp2_with fail
        refine (CB.out _ _ hu).mono ?_
        rintro e w1 ⟨rfl, b1⟩
        go_wp2_with fail
        go_loopw [3, 16] (fun m i wr => ∃ k : Nat, k ≤ xs.length ∧ i = .int .i64 k ∧ m = .int .i64 ((bvN xs k : Nat) : Int) ∧ Below w.heap.size w wr) (fun _ i _ => xs.length - (intOf i).toNat)
        case atStart => exact ⟨0, Nat.zero_le _, rfl, rfl, b1⟩
        case round =>
          obtain ⟨k, hk, rfl, rfl, hbw⟩ := hrel
          have hq := bvN_lt HB.out k hk
          have HQ := Lib.hid hq
          have HS : Hid (bvN xs (k + 1) = bvN xs k + (xs.getD k 0).toNat * 2 ^ k) := Lib.hid rfl
          obtain ⟨q, hq1⟩ : ∃ q, q = bvN xs k := ⟨_, rfl⟩
          have HQ1 := Lib.hid hq1
          rw [← hq1] at hq HQ HS ⊢
          clear hq1 hq
          by_cases hlt : k < xs.length
          · obtain ⟨x, hb, HX, g1, -, -⟩ := hu.elem64 (j := k) hbw hlt
            have hx := upTo_mem HB.out (mem_getD hlt HX.out)
            obtain ⟨x, rfl⟩ := Int.eq_ofNat_of_zero_le hx.1
            have hx1 : x ≤ 1 := by omega
            have eo := or_bits (show k < 40 by omega) HQ.out hx1
            have hp := pow40 (show k ≤ 40 by omega)
            have e2 : (x : Int) * 2 ^ k = ((x * 2 ^ k : Nat) : Int) := by simp
            have h3 : x * 2 ^ k ≤ 1 * 2 ^ k := Nat.mul_le_mul_right _ hx1
            have s0 : 0 ≤ (x : Int) * 2 ^ k := by rw [e2]; exact Int.natCast_nonneg _
            have s1 : (x : Int) * 2 ^ k ≤ 1099511627776 := by rw [e2]; exact Int.ofNat_le.2 (Nat.le_trans h3 (by rw [Nat.one_mul]; exact hp))
            have hi1 : (0 : Int) ≤ (k : Int) := by omega
            have hi2 : (k : Int) < 64 := by omega
            obtain ⟨r, hr⟩ : ∃ r, r = q + x * 2 ^ k := ⟨_, rfl⟩
            have HR : Hid (bvN xs (k + 1) = r) := Lib.hid (by rw [HS.out, HX.out, hr]; rfl)
            rw [← hr] at eo
            clear hr e2 h3 hp hx
            go_wp2
            go_roundw
            case rel => exact ⟨k + 1, by omega, by go_num, by rw [HR.out], hbw⟩
            case measure => simp [intOf]; omega
          · have hke : k = xs.length := by omega
            subst hke
            go_wp2
            go_ret
            exact ⟨ret_int (by rw [HQ1.out]), hbw⟩
    · rw [show b2i xs = 0 from if_neg (fun z => hl z.2)]
      obtain ⟨a, c, rfl⟩ := hu.shape
      have hl1 : (40 : Int) < (xs.length : Int) := by omega
      clear hb
      go_enter Try.func24, Try.ntmps24
      go_wp2_with fail
      refine (CB.out _ _ hu).mono ?_
      rintro e w1 ⟨rfl, b1⟩
      go_wp2_with fail
      go_ret
      exact ⟨rfl, b1⟩
  · rw [show b2i xs = 0 from if_neg (fun z => hb z.1)]
    have hb' : upTo 1 xs = false := by simpa using hb
    have cb := fun v W hv => impl_IsBitString v xs W hv
    rw [hb'] at cb
    have CB := Lib.hid cb
    clear cb hb' hb
    obtain ⟨a, c, rfl⟩ := hu.shape
    go_enter Try.func24, Try.ntmps24
    go_wp2_with fail
    refine (CB.out _ _ hu).mono ?_
    rintro e w1 ⟨rfl, b1⟩
    go_wp2_with fail
    go_ret
    exact ⟨rfl, b1⟩
end Go.Proofs.Ytgaoiljedfogjaa

/- Contracts of ReadUvarint (program and reference). -/
import Derived.Test.YtjnpdepgmgdhdaaCB2i
namespace Go.Proofs.Ytjnpdepgmgdhdaa
open Go.RowKit
set_option linter.unusedVariables false

/-- The number that the first k bytes from place o on bear; what is read there: number, next place, success. -/
def accN (xs : List Int) (o : Nat) : Nat → Nat
  | 0 => 0
  | k + 1 => accN xs o k + (xs.getD (o + k) 0).toNat % 128 * 2 ^ (7 * k)
def ruL (xs : List Int) (o : Nat) : Nat → Nat → Int × Int × Bool
  | 0, _ => (0, 0, false)
  | f + 1, k => if xs.length ≤ o + k then (0, 0, false)
      else if xs.getD (o + k) 0 < 128 then (if (0 < k ∧ xs.getD (o + k) 0 = 0) ∨ 1000000000000 < accN xs o (k + 1) then (0, 0, false) else (((accN xs o (k + 1) : Nat) : Int), ((o + k + 1 : Nat) : Int), true))
      else ruL xs o f (k + 1)
def ru (xs : List Int) (o : Int) : Int × Int × Bool := if o < 0 then (0, 0, false) else ruL xs o.toNat 6 0
theorem accN_lt (xs : List Int) (o : Nat) : ∀ k, accN xs o k < 2 ^ (7 * k)
  | 0 => by simp [accN]
  | k + 1 => by
    have h1 := accN_lt xs o k
    have h2 : (xs.getD (o + k) 0).toNat % 128 * 2 ^ (7 * k) ≤ 127 * 2 ^ (7 * k) := Nat.mul_le_mul_right _ (by omega)
    rw [accN, show 7 * (k + 1) = 7 * k + 7 by omega, Nat.pow_add]
    omega
theorem pow42 {k : Nat} (h : k ≤ 6) : 2 ^ (7 * k) ≤ 4398046511104 := Nat.le_trans (Nat.pow_le_pow_right (by omega) (show 7 * k ≤ 42 by omega)) (by decide)
theorem pow35 {k : Nat} (h : k < 6) : 2 ^ (7 * k) ≤ 34359738368 := Nat.le_trans (Nat.pow_le_pow_right (by omega) (show 7 * k ≤ 35 by omega)) (by decide)
theorem ruL_out {xs : List Int} {o f k : Nat} (h : xs.length ≤ o + k) : ruL xs o f k = (0, 0, false) := by
  cases f with
  | zero => rfl
  | succ f => rw [ruL, if_pos h]
theorem ruL_next {xs : List Int} {o f k : Nat} {x : Int} (h : o + k < xs.length) (hx : xs.getD (o + k) 0 = x) (h1 : 128 ≤ x) : ruL xs o (f + 1) k = ruL xs o f (k + 1) := by
  rw [ruL, if_neg (by omega), if_neg (by omega)]
theorem ruL_bad {xs : List Int} {o f k : Nat} {x : Int} (h : o + k < xs.length) (hx : xs.getD (o + k) 0 = x) (h1 : x < 128) (hb : (0 < k ∧ x = 0) ∨ 1000000000000 < accN xs o (k + 1)) : ruL xs o (f + 1) k = (0, 0, false) := by
  rw [ruL, if_neg (by omega), hx, if_pos h1, if_pos hb]
theorem ruL_ok {xs : List Int} {o f k : Nat} {x : Int} (h : o + k < xs.length) (hx : xs.getD (o + k) 0 = x) (h1 : x < 128) (hb : ¬ ((0 < k ∧ x = 0) ∨ 1000000000000 < accN xs o (k + 1))) : ruL xs o (f + 1) k = (((accN xs o (k + 1) : Nat) : Int), ((o + k + 1 : Nat) : Int), true) := by
  rw [ruL, if_neg (by omega), hx, if_pos h1, if_neg hb]
theorem and127 {x : Nat} (h : x < 9223372036854775808) : bits .and .i64 (x : Int) 127 = ((x % 128 : Nat) : Int) := by
  rw [show (127 : Int) = ((127 : Nat) : Int) from rfl, i64_and_nat _ _ h (by omega), show (127 : Nat) = 2 ^ 7 - 1 from rfl, Nat.and_two_pow_sub_one_eq_mod]
theorem or_var {n b k : Nat} (hk : k < 6) (hn : n < 2 ^ (7 * k)) (hb : b ≤ 127) : bits .or .i64 (n : Int) ((b : Int) * 2 ^ (7 * k)) = ((n + b * 2 ^ (7 * k) : Nat) : Int) := by
  have e : (b : Int) * 2 ^ (7 * k) = ((b * 2 ^ (7 * k) : Nat) : Int) := by simp
  have h1 := pow35 hk
  have h2 : b * 2 ^ (7 * k) ≤ 127 * 2 ^ (7 * k) := Nat.mul_le_mul_right _ hb
  rw [e, i64_or_nat _ _ (by omega) (by omega), or_add hn]
/-- What a call returns that reads a number. -/
def Got (r : Int × Int × Bool) (w : World) (e : Ending) (w' : World) : Prop := e = .returned (.tuple #[.int .i64 r.1, .int .i64 r.2.1, .bool r.2.2]) ∧ Below w.heap.size w w'

set_option maxHeartbeats 3200000 in
set_option maxRecDepth 100000 in
theorem spec_ReadUvarint (u : Value) (xs : List Int) (o : Int) (w : World) (hu : Rd .u8 w u xs) (hob : -9223372036854775808 ≤ o ∧ o ≤ 9223372036854775807) (hn : xs.length ≤ 1073741824) :
    Calls Try.prog 11 #[u, .int .i64 o] w (Got (ru xs o) w) := by
  have lx := hu.len_le
  by_cases ho : o < 0
  · rw [show ru xs o = (0, 0, false) from if_pos ho]
    obtain ⟨a, c, rfl⟩ := hu.shape
    go_enter Try.func11, Try.ntmps11
    go_wp2
    go_rounds 1
    go_ret3
    exact ⟨rfl, Below.refl _ _⟩
  · obtain ⟨o, rfl⟩ := Int.eq_ofNat_of_zero_le (show 0 ≤ o by omega)
    rw [show ru xs (o : Int) = ruL xs o 6 0 from if_neg ho]
    obtain ⟨ol, ou⟩ := hob
    rcases hu.parts with ⟨h0, a, c, rfl⟩ | ⟨h0, b, off, c, rfl⟩
    · rw [ruL_out (by rw [h0]; exact Nat.zero_le _)]
      have hn0 : decide ((o : Int) < 0) = false := by simp
      clear hu h0
      go_enter Try.func11, Try.ntmps11
      go_wp2
      go_rounds 1
      go_ret3
      exact ⟨rfl, Below.refl _ _⟩
    · have hn0 : decide ((o : Int) < 0) = false := by simp
      obtain ⟨R, hR⟩ : ∃ R, R = ruL xs o 6 0 := ⟨_, rfl⟩
      have HR0 := Lib.hid hR
      rw [← hR]
      clear hR ho
      go_enter Try.func11, Try.ntmps11
      go_wp2
      go_loop [7, 8] (fun n i => ∃ k f : Nat, k ≤ 6 ∧ Hid (f + k = 6) ∧ i = .int .i64 k ∧ n = .int .i64 ((accN xs o k : Nat) : Int) ∧ Hid (R = ruL xs o f k)) (fun _ i => 6 - (intOf i).toNat)
      case atStart => exact ⟨0, 6, by omega, Lib.hid rfl, rfl, rfl, HR0⟩
      case round =>
        obtain ⟨k, f, hk, HFK, rfl, rfl, HL⟩ := hrel
        have HQ := Lib.hid (accN_lt xs o k)
        obtain ⟨q, hq1⟩ : ∃ q, q = accN xs o k := ⟨_, rfl⟩
        have HQ1 := Lib.hid hq1
        rw [← hq1] at HQ ⊢
        clear hq1
        by_cases hlt : k < 6
        · obtain ⟨f, rfl⟩ : ∃ f', f = f' + 1 := ⟨f - 1, by have := HFK.out; omega⟩
          by_cases hin : o + k < xs.length
          · obtain ⟨x, hb, HX, g1, x0, x1⟩ := hu.elem8 (j := o + k) (Below.refl _ _) hin
            obtain ⟨x, rfl⟩ := Int.eq_ofNat_of_zero_le x0
            have q42 := HQ.out
            have hp := pow35 hlt
            have h3 : (x % 128) * 2 ^ (7 * k) ≤ 127 * 2 ^ (7 * k) := Nat.mul_le_mul_right _ (by omega)
            obtain ⟨y, hy⟩ : ∃ y, y = x % 128 := ⟨_, rfl⟩
            have hy1 : y ≤ 127 := by omega
            have e2 : (y : Int) * 2 ^ (7 * k) = ((y * 2 ^ (7 * k) : Nat) : Int) := by simp
            rw [← hy] at h3
            have s0 : 0 ≤ (y : Int) * 2 ^ (7 * k) := by rw [e2]; exact Int.natCast_nonneg _
            have h4 : 127 * 2 ^ (7 * k) ≤ 4398046511104 := by omega
            have h5 := Nat.le_trans h3 h4
            have s1 : (y : Int) * 2 ^ (7 * k) ≤ 4398046511104 := by rw [e2]; exact Int.ofNat_le.2 h5
            have q4 : (q : Int) ≤ 4398046511104 := by have := pow42 (show k ≤ 6 by omega); omega
            obtain ⟨r, hr⟩ : ∃ r, r = q + y * 2 ^ (7 * k) := ⟨_, rfl⟩
            have HR : Hid (accN xs o (k + 1) = r) := Lib.hid (by rw [accN, HX.out, hr, hy, HQ1.out]; rfl)
            have hr4 : (r : Int) ≤ 8796093022208 := by rw [hr]; omega
            have hr5 : (0 : Int) ≤ (r : Int) := by omega
            have ea : bits .and .i64 (x : Int) 127 = (y : Int) := by rw [and127 (by omega), hy]
            have eo : bits .or .i64 (q : Int) ((y : Int) * 2 ^ (7 * k)) = (r : Int) := by rw [or_var hlt HQ.out hy1, hr]
            clear hy hr e2 h3 h4 h5 hp
            clear q42
            have i1 : (0 : Int) ≤ 7 * (k : Int) := by omega
            have i2 : 7 * (k : Int) < 64 := by omega
            have i3 : (o : Int) + (k : Int) < (xs.length : Int) := by omega
            by_cases h128 : x < 128
            · by_cases hz : 0 < k ∧ x = 0
              · have HF := Lib.hid (HL.out.trans (ruL_bad (f := f) hin HX.out (by omega) (.inl (by omega))))
                obtain ⟨hz1, hz2⟩ := hz
                have hk1 : (0 : Int) < (k : Int) := by omega
                have hx1 : ((x : Int) == 0) = true := by simp; omega
                clear hz2
                clear HL HQ
                go_wp2
                go_ret3
                exact ⟨by rw [HF.out]; rfl, Below.refl _ _⟩
              · by_cases hm : 1000000000000 < r
                · have HF := Lib.hid (HL.out.trans (ruL_bad (f := f) hin HX.out (by omega) (.inr (by rw [HR.out]; exact hm))))
                  have hm1 : (1000000000000 : Int) < (r : Int) := by omega
                  clear HL HQ hm
                  rcases (show (k ≤ 0 ∧ x = 0) ∨ (k ≤ 0 ∧ 0 < x) ∨ (0 < k ∧ 0 < x) by omega) with ⟨hk0, hx0⟩ | ⟨hk0, hx0⟩ | ⟨hk0, hx0⟩
                  · have hkb : decide ((0 : Int) < (k : Int)) = false := by simp; omega
                    have hx1 : ((x : Int) == 0) = true := by simp; omega
                    clear hz hx0
                    go_wp2
                    go_ret3
                    exact ⟨by rw [HF.out]; rfl, Below.refl _ _⟩
                  · have hkb : decide ((0 : Int) < (k : Int)) = false := by simp; omega
                    have hx1 : ((x : Int) == 0) = false := by simp; omega
                    clear hz
                    go_wp2
                    go_ret3
                    exact ⟨by rw [HF.out]; rfl, Below.refl _ _⟩
                  · have hk1 : (0 : Int) < (k : Int) := by omega
                    have hx1 : ((x : Int) == 0) = false := by simp; omega
                    clear hz
                    go_wp2
                    go_ret3
                    exact ⟨by rw [HF.out]; rfl, Below.refl _ _⟩
                · have HF := Lib.hid (HL.out.trans (ruL_ok (f := f) hin HX.out (by omega) (by rw [HR.out]; omega)))
                  rw [HR.out] at HF
                  have hm2 : decide ((1000000000000 : Int) < (r : Int)) = false := by simp; omega
                  have hm1 : (r : Int) ≤ 1000000000000 := by omega
                  clear HL HQ hm
                  rcases (show (k ≤ 0 ∧ x = 0) ∨ (k ≤ 0 ∧ 0 < x) ∨ (0 < k ∧ 0 < x) by omega) with ⟨hk0, hx0⟩ | ⟨hk0, hx0⟩ | ⟨hk0, hx0⟩
                  · have hkb : decide ((0 : Int) < (k : Int)) = false := by simp; omega
                    have hx1 : ((x : Int) == 0) = true := by simp; omega
                    clear hz hx0
                    go_wp2
                    go_ret3
                    exact ⟨by rw [HF.out]; rfl, Below.refl _ _⟩
                  · have hkb : decide ((0 : Int) < (k : Int)) = false := by simp; omega
                    have hx1 : ((x : Int) == 0) = false := by simp; omega
                    clear hz
                    go_wp2
                    go_ret3
                    exact ⟨by rw [HF.out]; rfl, Below.refl _ _⟩
                  · have hk1 : (0 : Int) < (k : Int) := by omega
                    have hx1 : ((x : Int) == 0) = false := by simp; omega
                    clear hz
                    go_wp2
                    go_ret3
                    exact ⟨by rw [HF.out]; rfl, Below.refl _ _⟩
            · have HF := Lib.hid (HL.out.trans (ruL_next (f := f) hin HX.out (by omega)))
              have HFK2 : Hid (f + (k + 1) = 6) := Lib.hid (by have := HFK.out; omega)
              clear HL HQ
              go_wp2
              go_round
              case rel => exact ⟨k + 1, f, by omega, HFK2, by go_num, by rw [HR.out], HF⟩
              case measure => simp [intOf]; omega
          · have HF := Lib.hid (HL.out.trans (ruL_out (f := f + 1) (by omega)))
            have i3 : (xs.length : Int) ≤ (o : Int) + (k : Int) := by omega
            have i4 : (xs.length : Int) - (k : Int) ≤ (o : Int) := by omega
            clear HL HQ
            go_wp2
            go_ret3
            exact ⟨by rw [HF.out]; rfl, Below.refl _ _⟩
        · have hke : k = 6 := by omega
          subst hke
          have hf : f = 0 := by have := HFK.out; omega
          subst hf
          go_wp2
          go_ret3
          exact ⟨by rw [HL.out]; rfl, Below.refl _ _⟩
set_option maxHeartbeats 3200000 in
set_option maxRecDepth 100000 in
theorem impl_ReadUvarint (u : Value) (xs : List Int) (o : Int) (w : World) (hu : Rd .u8 w u xs) (hob : -9223372036854775808 ≤ o ∧ o ≤ 9223372036854775807) (hn : xs.length ≤ 1073741824) :
    Calls Try.prog 13 #[u, .int .i64 o] w (Got (ru xs o) w) := by
  have lx := hu.len_le
  by_cases ho : o < 0
  · rw [show ru xs o = (0, 0, false) from if_pos ho]
    obtain ⟨a, c, rfl⟩ := hu.shape
    go_enter Try.func13, Try.ntmps13
    go_wp2
    go_ret3
    exact ⟨rfl, Below.refl _ _⟩
  · obtain ⟨o, rfl⟩ := Int.eq_ofNat_of_zero_le (show 0 ≤ o by omega)
    rw [show ru xs (o : Int) = ruL xs o 6 0 from if_neg ho]
    obtain ⟨ol, ou⟩ := hob
    rcases hu.parts with ⟨h0, a, c, rfl⟩ | ⟨h0, b, off, c, rfl⟩
    · rw [ruL_out (by rw [h0]; exact Nat.zero_le _)]
      have hn0 : decide ((o : Int) < 0) = false := by simp
      clear hu h0
      go_enter Try.func13, Try.ntmps13
      go_wp2
      go_ret3
      exact ⟨rfl, Below.refl _ _⟩
    · have hn0 : decide ((o : Int) < 0) = false := by simp
      by_cases hol : xs.length ≤ o
      · rw [ruL_out (by omega)]
        have hn0 : decide ((o : Int) < 0) = false := by simp
        have hn1 : (xs.length : Int) ≤ (o : Int) := by omega
        go_enter Try.func13, Try.ntmps13
        go_wp2
        go_ret3
        exact ⟨rfl, Below.refl _ _⟩
      have hol1 : (o : Int) < (xs.length : Int) := by omega
      obtain ⟨R, hR⟩ : ∃ R, R = ruL xs o 6 0 := ⟨_, rfl⟩
      have HR0 := Lib.hid hR
      rw [← hR]
      clear hR ho
      go_enter Try.func13, Try.ntmps13
      go_wp2
      go_loop [7, 8] (fun n i => ∃ k f : Nat, k ≤ 6 ∧ Hid (f + k = 6) ∧ i = .int .i64 k ∧ n = .int .i64 ((accN xs o k : Nat) : Int) ∧ Hid (R = ruL xs o f k)) (fun _ i => 6 - (intOf i).toNat)
      case atStart => exact ⟨0, 6, by omega, Lib.hid rfl, rfl, rfl, HR0⟩
      case round =>
        obtain ⟨k, f, hk, HFK, rfl, rfl, HL⟩ := hrel
        have HQ := Lib.hid (accN_lt xs o k)
        obtain ⟨q, hq1⟩ : ∃ q, q = accN xs o k := ⟨_, rfl⟩
        have HQ1 := Lib.hid hq1
        rw [← hq1] at HQ ⊢
        clear hq1
        by_cases hlt : k < 6
        · obtain ⟨f, rfl⟩ : ∃ f', f = f' + 1 := ⟨f - 1, by have := HFK.out; omega⟩
          by_cases hin : o + k < xs.length
          · obtain ⟨x, hb, HX, g1, x0, x1⟩ := hu.elem8 (j := o + k) (Below.refl _ _) hin
            obtain ⟨x, rfl⟩ := Int.eq_ofNat_of_zero_le x0
            have q42 := HQ.out
            have hp := pow35 hlt
            have h3 : (x % 128) * 2 ^ (7 * k) ≤ 127 * 2 ^ (7 * k) := Nat.mul_le_mul_right _ (by omega)
            obtain ⟨y, hy⟩ : ∃ y, y = x % 128 := ⟨_, rfl⟩
            have hy1 : y ≤ 127 := by omega
            have e2 : (y : Int) * 2 ^ (7 * k) = ((y * 2 ^ (7 * k) : Nat) : Int) := by simp
            rw [← hy] at h3
            have s0 : 0 ≤ (y : Int) * 2 ^ (7 * k) := by rw [e2]; exact Int.natCast_nonneg _
            have h4 : 127 * 2 ^ (7 * k) ≤ 4398046511104 := by omega
            have h5 := Nat.le_trans h3 h4
            have s1 : (y : Int) * 2 ^ (7 * k) ≤ 4398046511104 := by rw [e2]; exact Int.ofNat_le.2 h5
            have q4 : (q : Int) ≤ 4398046511104 := by have := pow42 (show k ≤ 6 by omega); omega
            obtain ⟨r, hr⟩ : ∃ r, r = q + y * 2 ^ (7 * k) := ⟨_, rfl⟩
            have HR : Hid (accN xs o (k + 1) = r) := Lib.hid (by rw [accN, HX.out, hr, hy, HQ1.out]; rfl)
            have hr4 : (r : Int) ≤ 8796093022208 := by rw [hr]; omega
            have hr5 : (0 : Int) ≤ (r : Int) := by omega
            have ea : (x : Int) % 128 = (y : Int) := by rw [hy]; omega
            have eo : (q : Int) + (y : Int) * 2 ^ (7 * k) = (r : Int) := by rw [e2, hr]; rfl
            clear hy hr e2 h3 h4 h5 hp
            clear q42
            have i1 : (0 : Int) ≤ 7 * (k : Int) := by omega
            have i2 : 7 * (k : Int) < 64 := by omega
            have i3 : (o : Int) + (k : Int) < (xs.length : Int) := by omega
            by_cases h128 : x < 128
            · by_cases hz : 0 < k ∧ x = 0
              · have HF := Lib.hid (HL.out.trans (ruL_bad (f := f) hin HX.out (by omega) (.inl (by omega))))
                obtain ⟨hz1, hz2⟩ := hz
                have hk1 : (0 : Int) < (k : Int) := by omega
                have hx1 : ((x : Int) == 0) = true := by simp; omega
                clear hz2
                clear HL HQ
                go_wp2
                go_ret3
                exact ⟨by rw [HF.out]; rfl, Below.refl _ _⟩
              · by_cases hm : 1000000000000 < r
                · have HF := Lib.hid (HL.out.trans (ruL_bad (f := f) hin HX.out (by omega) (.inr (by rw [HR.out]; exact hm))))
                  have hm1 : (1000000000000 : Int) < (r : Int) := by omega
                  clear HL HQ hm
                  rcases (show (k ≤ 0 ∧ x = 0) ∨ (k ≤ 0 ∧ 0 < x) ∨ (0 < k ∧ 0 < x) by omega) with ⟨hk0, hx0⟩ | ⟨hk0, hx0⟩ | ⟨hk0, hx0⟩
                  · have hkb : decide ((0 : Int) < (k : Int)) = false := by simp; omega
                    have hx1 : ((x : Int) == 0) = true := by simp; omega
                    clear hz hx0
                    go_wp2
                    go_ret3
                    exact ⟨by rw [HF.out]; rfl, Below.refl _ _⟩
                  · have hkb : decide ((0 : Int) < (k : Int)) = false := by simp; omega
                    have hx1 : ((x : Int) == 0) = false := by simp; omega
                    clear hz
                    go_wp2
                    go_ret3
                    exact ⟨by rw [HF.out]; rfl, Below.refl _ _⟩
                  · have hk1 : (0 : Int) < (k : Int) := by omega
                    have hx1 : ((x : Int) == 0) = false := by simp; omega
                    clear hz
                    go_wp2
                    go_ret3
                    exact ⟨by rw [HF.out]; rfl, Below.refl _ _⟩
                · have HF := Lib.hid (HL.out.trans (ruL_ok (f := f) hin HX.out (by omega) (by rw [HR.out]; omega)))
                  rw [HR.out] at HF
                  have hm2 : decide ((1000000000000 : Int) < (r : Int)) = false := by simp; omega
                  have hm1 : (r : Int) ≤ 1000000000000 := by omega
                  clear HL HQ hm
                  rcases (show (k ≤ 0 ∧ x = 0) ∨ (k ≤ 0 ∧ 0 < x) ∨ (0 < k ∧ 0 < x) by omega) with ⟨hk0, hx0⟩ | ⟨hk0, hx0⟩ | ⟨hk0, hx0⟩
                  · have hkb : decide ((0 : Int) < (k : Int)) = false := by simp; omega
                    have hx1 : ((x : Int) == 0) = true := by simp; omega
                    clear hz hx0
                    go_wp2
                    go_ret3
                    exact ⟨by rw [HF.out]; rfl, Below.refl _ _⟩
                  · have hkb : decide ((0 : Int) < (k : Int)) = false := by simp; omega
                    have hx1 : ((x : Int) == 0) = false := by simp; omega
                    clear hz
                    go_wp2
                    go_ret3
                    exact ⟨by rw [HF.out]; rfl, Below.refl _ _⟩
                  · have hk1 : (0 : Int) < (k : Int) := by omega
                    have hx1 : ((x : Int) == 0) = false := by simp; omega
                    clear hz
                    go_wp2
                    go_ret3
                    exact ⟨by rw [HF.out]; rfl, Below.refl _ _⟩
            · have HF := Lib.hid (HL.out.trans (ruL_next (f := f) hin HX.out (by omega)))
              have HFK2 : Hid (f + (k + 1) = 6) := Lib.hid (by have := HFK.out; omega)
              clear HL HQ
              go_wp2
              go_round
              case rel => exact ⟨k + 1, f, by omega, HFK2, by go_num, by rw [HR.out], HF⟩
              case measure => simp [intOf]; omega
          · have HF := Lib.hid (HL.out.trans (ruL_out (f := f + 1) (by omega)))
            have i3 : (xs.length : Int) ≤ (o : Int) + (k : Int) := by omega
            have i4 : (xs.length : Int) - (k : Int) ≤ (o : Int) := by omega
            clear HL HQ
            go_wp2
            go_ret3
            exact ⟨by rw [HF.out]; rfl, Below.refl _ _⟩
        · have hke : k = 6 := by omega
          subst hke
          have hf : f = 0 := by have := HFK.out; omega
          subst hf
          go_wp2
          go_ret3
          exact ⟨by rw [HL.out]; rfl, Below.refl _ _⟩
end Go.Proofs.Ytjnpdepgmgdhdaa

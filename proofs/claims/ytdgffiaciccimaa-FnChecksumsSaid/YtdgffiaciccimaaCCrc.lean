/- Contracts of Crc16 (program and reference). -/
import Derived.Test.YtdgffiaciccimaaCScr
namespace Go.Proofs.Ytdgffiaciccimaa
open Go.RowKit
set_option linter.unusedVariables false

/-- One bit, one byte, all bytes of the checksum's register. -/
def crcBit (r : Nat) : Nat := if r % 2 = 1 then (r / 2) ^^^ 33800 else r / 2
def crcIt : Nat → Nat → Nat
  | 0, r => r
  | j + 1, r => crcBit (crcIt j r)
def crcFold (xs : List Int) : Nat := xs.foldl (fun r c => crcIt 8 (r ^^^ c.toNat)) 65535
def crc (xs : List Int) : Nat := crcFold xs ^^^ 65535
theorem crcBit_lt {r : Nat} (h : r < 65536) : crcBit r < 65536 := by
  unfold crcBit
  split
  · exact Nat.xor_lt_two_pow (n := 16) (by omega) (by omega)
  · omega
theorem crcIt_lt {r : Nat} (h : r < 65536) : ∀ j, crcIt j r < 65536
  | 0 => h
  | j + 1 => crcBit_lt (crcIt_lt h j)
theorem crc_step {c : Nat} {xs : List Int} {k : Nat} (h : k < xs.length) (hx : xs.getD k 0 = (c : Int)) : crcFold (xs.take (k + 1)) = crcIt 8 (crcFold (xs.take k) ^^^ c) := by
  have h1 := foldl_take (f := fun (r : Nat) (c : Int) => crcIt 8 (r ^^^ c.toNat)) (a := 65535) h hx
  simp only [Int.toNat_natCast] at h1
  exact h1
theorem crc_lt (xs : List Int) (h : ∀ n ∈ xs, (Lit.int .u8 n).wf = true) : ∀ r, r < 65536 → xs.foldl (fun r c => crcIt 8 (r ^^^ c.toNat)) r < 65536 := by
  induction xs with
  | nil => intro r hr; exact hr
  | cons a t ih =>
    intro r hr
    have ha := bounds_u8 (h a (by simp))
    exact ih (fun n hn => h n (by simp [hn])) _ (crcIt_lt (Nat.xor_lt_two_pow (n := 16) hr (by omega)) 8)
theorem crcFold_lt {xs : List Int} (h : ∀ n ∈ xs, (Lit.int .u8 n).wf = true) : crcFold xs < 65536 := crc_lt xs h _ (by omega)
theorem crc_bd {xs : List Int} (h : ∀ n ∈ xs, (Lit.int .u8 n).wf = true) : crc xs < 65536 := Nat.xor_lt_two_pow (n := 16) (crcFold_lt h) (by omega)
theorem val_int {k : IntKind} {a b : Int} (h : a = b) : Value.int k a = Value.int k b := by rw [h]
theorem and_odd {m : Nat} (hm : m < 65536) (h : m % 2 = 1) : bits .and .i64 (m : Int) 1 = 1 := by
  rw [show (1 : Int) = ((1 : Nat) : Int) from rfl, i64_and_nat _ _ (by omega) (by omega), Nat.and_one_is_mod, h]
theorem and_even {m : Nat} (hm : m < 65536) (h : m % 2 = 0) : bits .and .i64 (m : Int) 1 = 0 := by
  rw [show (1 : Int) = ((1 : Nat) : Int) from rfl, i64_and_nat _ _ (by omega) (by omega), Nat.and_one_is_mod, h]; rfl
theorem xor_poly {m : Nat} (hm : m < 65536) (h : m % 2 = 1) : bits .xor .i64 ((m : Int) / 2) 33800 = ((crcBit m : Nat) : Int) := by
  rw [show (m : Int) / 2 = ((m / 2 : Nat) : Int) by simp, show (33800 : Int) = ((33800 : Nat) : Int) from rfl, i64_xor_nat _ _ (by omega) (by omega)]
  unfold crcBit; rw [if_pos h]
theorem shr_even {m : Nat} (h : m % 2 = 0) : (m : Int) / 2 = ((crcBit m : Nat) : Int) := by
  unfold crcBit; rw [if_neg (by omega)]; simp

set_option maxHeartbeats 800000 in
theorem impl_Crc16_same (u : Value) (xs : List Int) (w : World) (hu : Rd .u8 w u xs) :
    Calls Try.prog 26 #[u] w fun e w' => e = .returned (.int .i64 ((crc xs : Nat) : Int)) ∧ w = w' := by
  have lx := hu.len_le
  have hw := Lib.hid hu.wf
  rcases hu.parts with ⟨rfl, a, c, rfl⟩ | ⟨h0, b, off, c, rfl⟩
  · clear hu hw
    have hb : bits .xor .i64 65535 65535 = 0 := by decide +kernel
    go_enter Try.func26, Try.ntmps26
    go_wp2
    go_rounds 1
    go_ret
    exact ⟨rfl, rfl⟩
  · go_enter Try.func26, Try.ntmps26
    go_wp2
    go_loop [3, 10] (fun r i => ∃ k : Nat, k ≤ xs.length ∧ i = .int .i64 k ∧ r = .int .i64 ((crcFold (xs.take k) : Nat) : Int)) (fun _ i => xs.length - (intOf i).toNat)
    case atStart => exact ⟨0, Nat.zero_le _, rfl, rfl⟩
    case round =>
      obtain ⟨k, hk, rfl, rfl⟩ := hrel
      have hlt1 : crcFold (xs.take k) < 65536 := crcFold_lt fun n hn => hw.out n (List.mem_of_mem_take hn)
      obtain ⟨r, hr⟩ : ∃ r, r = crcFold (xs.take k) := ⟨_, rfl⟩
      have HR := Lib.hid hr
      rw [← hr] at hlt1 ⊢
      clear hr
      by_cases hlt : k < xs.length
      · obtain ⟨x, hb, HX, g1, x0, x1⟩ := hu.elem8 (Below.refl _ _) hlt
        obtain ⟨c, rfl⟩ := Int.eq_ofNat_of_zero_le x0
        have hx0 : r ^^^ c < 65536 := Nat.xor_lt_two_pow (n := 16) hlt1 (by omega)
        have ex : bits .xor .i64 (r : Int) (c : Int) = ((r ^^^ c : Nat) : Int) := i64_xor_nat r c (by omega) (by omega)
        obtain ⟨q, hq⟩ : ∃ q, q = r ^^^ c := ⟨_, rfl⟩
        have HQ : Hid (crcFold (xs.take (k + 1)) = crcIt 8 q) := Lib.hid (by rw [crc_step hlt HX.out, ← HR.out, hq])
        rw [← hq] at hx0 ex
        clear hq HR
        go_wp2
        go_loop [3, 6] (fun r i => ∃ j : Nat, j ≤ 8 ∧ i = .int .i64 j ∧ r = .int .i64 ((crcIt j q : Nat) : Int)) (fun _ i => 8 - (intOf i).toNat)
        case atStart => exact ⟨0, Nat.zero_le _, rfl, rfl⟩
        case round =>
          obtain ⟨j, hj, rfl, rfl⟩ := hrel
          have hm := crcIt_lt hx0 j
          obtain ⟨m, hm1⟩ : ∃ m, m = crcIt j q := ⟨_, rfl⟩
          have HM : Hid (crcIt (j + 1) q = crcBit m) := Lib.hid (by rw [hm1]; rfl)
          have HM0 := Lib.hid hm1
          rw [← hm1] at hm ⊢
          clear hm1 ex
          by_cases hlt8 : j < 8
          · rcases Nat.mod_two_eq_zero_or_one m with hp | hp
            · have ea := and_even hm hp
              have HP := Lib.hid hp
              clear hp
              go_wp2
              go_round
              case rel => exact ⟨j + 1, by omega, by go_num, val_int (by rw [HM.out]; exact shr_even HP.out)⟩
              case measure => simp [intOf]; omega
            · have ea := and_odd hm hp
              have eb := xor_poly hm hp
              obtain ⟨m', hm'⟩ : ∃ m', m' = crcBit m := ⟨_, rfl⟩
              rw [← hm'] at eb
              have HM' := Lib.hid hm'
              clear hp hm'
              go_wp2
              go_round
              case rel => exact ⟨j + 1, by omega, by go_num, by rw [HM.out, HM'.out]⟩
              case measure => simp [intOf]; omega
          · have he : j = 8 := by omega
            subst he
            go_wp2
            go_round
            case rel => exact ⟨k + 1, by omega, by go_num, by rw [HQ.out, HM0.out]⟩
            case measure => simp [intOf]; omega
      · rw [take_all hlt] at HR
        have ex : bits .xor .i64 (r : Int) 65535 = ((r ^^^ 65535 : Nat) : Int) := i64_xor_nat r 65535 (by omega) (by omega)
        obtain ⟨q, hq⟩ : ∃ q, q = r ^^^ 65535 := ⟨_, rfl⟩
        rw [← hq] at ex
        have HQ := Lib.hid hq
        clear hq
        go_wp2
        go_ret
        exact ⟨ret_int (by rw [HQ.out, HR.out]; rfl), rfl⟩
theorem impl_Crc16 (u : Value) (xs : List Int) (w : World) (hu : Rd .u8 w u xs) :
    Calls Try.prog 26 #[u] w fun e w' => e = .returned (.int .i64 ((crc xs : Nat) : Int)) ∧ Below w.heap.size w w' :=
  (impl_Crc16_same u xs w hu).mono fun _ _ h => ⟨h.1, by rw [← h.2]; exact Below.refl _ _⟩
end Go.Proofs.Ytdgffiaciccimaa

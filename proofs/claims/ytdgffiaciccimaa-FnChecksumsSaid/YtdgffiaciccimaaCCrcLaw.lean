/- The plain law of the checksum: a frame with its checksum is accepted, a frame in which one or two bits of the first 96 are turned is not. -/
import Derived.Test.YtdgffiaciccimaaCChk
namespace Go.Proofs.Ytdgffiaciccimaa
open Go.RowKit
theorem xor_par2 (a b : Nat) : (a ^^^ b) % 2 = (a % 2 + b % 2) % 2 := by
  have h := Nat.testBit_xor a b 0
  simp only [Nat.testBit_zero] at h
  rcases Nat.mod_two_eq_zero_or_one a with ha | ha <;> rcases Nat.mod_two_eq_zero_or_one b with hb | hb <;> rcases Nat.mod_two_eq_zero_or_one (a ^^^ b) with hc | hc <;> simp_all
theorem crcBit_xor (a b : Nat) : crcBit (a ^^^ b) = crcBit a ^^^ crcBit b := by
  have h2 := xor_par2 a b
  have hd : (a ^^^ b) / 2 = a / 2 ^^^ b / 2 := Nat.xor_div_two
  unfold crcBit
  rw [hd]
  rcases Nat.mod_two_eq_zero_or_one a with ha | ha <;> rcases Nat.mod_two_eq_zero_or_one b with hb | hb
  · rw [if_neg (by omega), if_neg (by omega), if_neg (by omega)]
  · rw [if_pos (by omega), if_neg (by omega), if_pos (by omega), Nat.xor_assoc]
  · rw [if_pos (by omega), if_pos (by omega), if_neg (by omega), Nat.xor_assoc, Nat.xor_assoc, Nat.xor_comm (b / 2)]
  · rw [if_neg (by omega), if_pos (by omega), if_pos (by omega), Nat.xor_assoc, Nat.xor_comm (b / 2), ← Nat.xor_assoc 33800, Nat.xor_self, Nat.zero_xor]
theorem crcIt_xor (a b : Nat) : ∀ j, crcIt j (a ^^^ b) = crcIt j a ^^^ crcIt j b
  | 0 => rfl
  | j + 1 => by simp only [crcIt]; rw [crcIt_xor a b j, crcBit_xor]
theorem crcIt_add (r : Nat) (i : Nat) : ∀ j, crcIt (i + j) r = crcIt j (crcIt i r)
  | 0 => rfl
  | j + 1 => by show crcBit (crcIt (i + j) r) = crcBit (crcIt j (crcIt i r)); rw [crcIt_add r i j]
/-- What the register of a list of bytes becomes. -/
def reg (xs : List Int) (r : Nat) : Nat := xs.foldl (fun r c => crcIt 8 (r ^^^ c.toNat)) r
theorem reg_xor : ∀ (xs : List Int) (r d : Nat), reg xs (r ^^^ d) = reg xs r ^^^ crcIt (8 * xs.length) d
  | [], r, d => rfl
  | c :: t, r, d => by
    show reg t (crcIt 8 (r ^^^ d ^^^ c.toNat)) = reg t (crcIt 8 (r ^^^ c.toNat)) ^^^ crcIt (8 * (t.length + 1)) d
    rw [show r ^^^ d ^^^ c.toNat = (r ^^^ c.toNat) ^^^ d by rw [Nat.xor_assoc, Nat.xor_comm d, Nat.xor_assoc], crcIt_xor, reg_xor t, show 8 * (t.length + 1) = 8 + 8 * t.length by omega, crcIt_add]
/-- One byte turned by the bits of e. -/
theorem reg_flip {xs : List Int} {q e x : Nat} (hq : q < xs.length) (hx : xs.getD q 0 = (x : Int)) (r : Nat) : reg (xs.set q ((x ^^^ e : Nat) : Int)) r = reg xs r ^^^ crcIt (8 * (xs.length - q)) e := by
  have e1 : xs.set q ((x ^^^ e : Nat) : Int) = xs.take q ++ ((x ^^^ e : Nat) : Int) :: xs.drop (q + 1) := List.set_eq_take_append_cons_drop.trans (if_pos hq)
  have e2 : xs = xs.take q ++ (x : Int) :: xs.drop (q + 1) := by
    rw [← hx, List.getD_eq_getElem?_getD, List.getElem?_eq_getElem hq, Option.getD_some, ← List.drop_eq_getElem_cons hq, List.take_append_drop]
  have e3 : 8 * (xs.length - q) = 8 + 8 * (xs.drop (q + 1)).length := by simp; omega
  obtain ⟨n, hn⟩ : ∃ n, n = 8 * (xs.drop (q + 1)).length := ⟨_, rfl⟩
  rw [← hn] at e3
  rw [e1, e3, crcIt_add]
  conv => rhs; rw [e2]
  unfold reg
  rw [List.foldl_append, List.foldl_append]
  show reg (xs.drop (q + 1)) (crcIt 8 (_ ^^^ ((x ^^^ e : Nat) : Int).toNat)) = reg (xs.drop (q + 1)) (crcIt 8 (_ ^^^ (x : Int).toNat)) ^^^ _
  rw [Int.toNat_natCast, Int.toNat_natCast, ← Nat.xor_assoc, crcIt_xor, reg_xor, hn]
theorem crcIt_pow : ∀ b, b < 8 → crcIt b (2 ^ b) = 1 := by decide +kernel
theorem crcIt_bit {n q b : Nat} (hq : q < n) (hb : b < 8) : crcIt (8 * (n - q)) (2 ^ b) = crcIt (8 * n - (8 * q + b)) 1 := by
  rw [show 8 * (n - q) = b + (8 * n - (8 * q + b)) by omega, crcIt_add, crcIt_pow b hb]
def synd : List Nat := (List.range 96).map (fun k => crcIt (k + 1) 1)
theorem synd_ok : (synd.Nodup ∧ 0 ∉ synd) := by decide +kernel
theorem synd_get {k : Nat} (h : k < 96) : synd[k]'(by simpa [synd] using h) = crcIt (k + 1) 1 := by simp [synd]
theorem synd_lt {a b : Nat} (ha : 1 ≤ a) (hb : b ≤ 96) (h : a < b) : crcIt a 1 ≠ crcIt b 1 := by
  have h1 := synd_get (k := a - 1) (by omega)
  have h2 := synd_get (k := b - 1) (by omega)
  rw [show a - 1 + 1 = a by omega] at h1
  rw [show b - 1 + 1 = b by omega] at h2
  rw [← h1, ← h2]
  exact List.pairwise_iff_getElem.1 synd_ok.1 (a - 1) (b - 1) (by simp [synd]; omega) (by simp [synd]; omega) (by omega)
theorem synd_ne {a b : Nat} (ha : 1 ≤ a ∧ a ≤ 96) (hb : 1 ≤ b ∧ b ≤ 96) (h : a ≠ b) : crcIt a 1 ≠ crcIt b 1 := by
  rcases Nat.lt_or_gt_of_ne h with h | h
  · exact synd_lt ha.1 hb.2 h
  · exact (synd_lt hb.1 ha.2 h).symm
theorem synd_pos {a : Nat} (ha : 1 ≤ a ∧ a ≤ 96) : crcIt a 1 ≠ 0 := by
  have h1 := synd_get (k := a - 1) (by omega)
  rw [show a - 1 + 1 = a by omega] at h1
  rw [← h1]
  intro h3
  exact synd_ok.2 (by rw [← h3]; exact List.getElem_mem _)
theorem crcIt_hi : ∀ (j m : Nat), crcIt j (2 ^ j * m) = m
  | 0, m => by simp [crcIt]
  | j + 1, m => by
    show crcBit (crcIt j (2 ^ (j + 1) * m)) = m
    rw [show 2 ^ (j + 1) * m = 2 ^ j * (2 * m) by rw [Nat.pow_succ, Nat.mul_assoc], crcIt_hi j]
    unfold crcBit
    rw [if_neg (by omega)]; omega
theorem split_xor (a : Nat) : (a % 256) ^^^ (256 * (a / 256)) = a := by
  apply Nat.eq_of_testBit_eq
  intro i
  rw [Nat.testBit_xor, show (256 : Nat) = 2 ^ 8 from rfl, Nat.testBit_mod_two_pow, Nat.testBit_two_pow_mul, Nat.testBit_div_two_pow]
  by_cases h : i < 8
  · simp [h, Nat.not_le.2 h]
  · simp [h, Nat.not_lt.1 h]
theorem end_val (R : Nat) : crcIt 8 (crcIt 8 (R ^^^ ((R ^^^ 65535) % 256)) ^^^ ((R ^^^ 65535) / 256)) = crcIt 16 65535 := by
  have h1 : (R ^^^ 65535) / 256 = crcIt 8 (256 * ((R ^^^ 65535) / 256)) := (crcIt_hi 8 _).symm
  rw [h1, ← crcIt_xor, ← crcIt_add, Nat.xor_assoc, split_xor, ← Nat.xor_assoc, Nat.xor_self, Nat.zero_xor]
theorem appCrc_reg (xs : List Int) : reg (appCrc xs) 65535 = crcIt 16 65535 := by
  have h : ∀ c : Nat, crc xs = c → crcFold xs ^^^ 65535 = c := fun _ h => h
  unfold appCrc
  generalize hc : crc xs = c
  have h2 := h c hc
  unfold reg
  rw [List.foldl_append]
  show crcIt 8 (crcIt 8 (crcFold xs ^^^ ((c : Int) % 256).toNat) ^^^ ((c : Int) / 256).toNat) = _
  rw [show ((c : Int) % 256).toNat = c % 256 by omega, show ((c : Int) / 256).toNat = c / 256 by omega, ← h2]
  exact end_val _
theorem okC_reg {xs : List Int} (h : okC xs = true) : reg xs 65535 = crcIt 16 65535 := by
  unfold okC at h
  have h1 := of_decide_eq_true h
  rw [← h1.2]
  exact appCrc_reg _
theorem okC_app (xs : List Int) : okC (appCrc xs) = true := by
  unfold okC
  refine decide_eq_true ⟨by rw [appCrc_len]; omega, ?_⟩
  rw [appCrc_len, Nat.add_sub_cancel, show (appCrc xs).take xs.length = xs from by simp [appCrc]]
theorem chk_app (xs : List Int) : chk (appCrc xs) = xs := by
  unfold chk
  rw [if_pos (okC_app xs), appCrc_len, Nat.add_sub_cancel]
  simp [appCrc]
/-- Bit i of a frame turned. -/
def flip (i : Nat) (xs : List Int) : List Int := xs.set (i / 8) (((xs.getD (i / 8) 0).toNat ^^^ 2 ^ (i % 8) : Nat) : Int)
theorem flip_len (i : Nat) (xs : List Int) : (flip i xs).length = xs.length := by simp [flip]
theorem flip_reg {xs : List Int} {i : Nat} (hw : ∀ n ∈ xs, (Lit.int .u8 n).wf = true) (hi : i < 8 * xs.length) (r : Nat) : reg (flip i xs) r = reg xs r ^^^ crcIt (8 * xs.length - i) 1 := by
  have hq : i / 8 < xs.length := by omega
  have hm := bounds_u8 (hw (xs.getD (i / 8) 0) (mem_getD hq rfl))
  have h := reg_flip (e := 2 ^ (i % 8)) hq (Int.toNat_of_nonneg hm.1).symm r
  unfold flip
  rw [h, crcIt_bit hq (by omega), show 8 * (i / 8) + i % 8 = i by omega]
theorem flip_wf {xs : List Int} {i : Nat} (hw : ∀ n ∈ xs, (Lit.int .u8 n).wf = true) : ∀ n ∈ flip i xs, (Lit.int .u8 n).wf = true := by
  intro n hn
  unfold flip at hn
  rcases List.mem_or_eq_of_mem_set hn with hn | rfl
  · exact hw n hn
  · have h1 : (xs.getD (i / 8) 0).toNat < 2 ^ 8 := by
      by_cases h : i / 8 < xs.length
      · have hm := bounds_u8 (hw (xs.getD (i / 8) 0) (mem_getD h rfl)); omega
      · rw [List.getD_eq_getElem?_getD, List.getElem?_eq_none (by omega)]; decide
    have h2 : 2 ^ (i % 8) < 2 ^ 8 := Nat.pow_lt_pow_right (by omega) (by omega)
    have := Nat.xor_lt_two_pow h1 h2
    exact WalkArith.wf_u8 (by omega)
theorem xor_eq_self {a b : Nat} (h : a ^^^ b = a) : b = 0 := by
  have : a ^^^ (a ^^^ b) = a ^^^ a := by rw [h]
  rwa [← Nat.xor_assoc, Nat.xor_self, Nat.zero_xor] at this
theorem one_bad {xs : List Int} {i : Nat} (hw : ∀ n ∈ xs, (Lit.int .u8 n).wf = true) (hl : xs.length ≤ 12) (hok : okC xs = true) (hi : i < 8 * xs.length) : okC (flip i xs) = false := by
  by_cases h : okC (flip i xs) = true
  · have h1 := okC_reg h
    rw [flip_reg hw hi, okC_reg hok] at h1
    exact absurd (xor_eq_self h1) (synd_pos (by omega))
  · simpa using h
theorem two_bad {xs : List Int} {i j : Nat} (hw : ∀ n ∈ xs, (Lit.int .u8 n).wf = true) (hl : xs.length ≤ 12) (hok : okC xs = true) (hi : i < 8 * xs.length) (hj : j < 8 * xs.length) (hij : i ≠ j) : okC (flip j (flip i xs)) = false := by
  by_cases h : okC (flip j (flip i xs)) = true
  · have h1 := okC_reg h
    rw [flip_reg (flip_wf hw) (by rw [flip_len]; exact hj), flip_len, flip_reg hw hi, okC_reg hok, Nat.xor_assoc] at h1
    have h2 := xor_eq_self h1
    have h3 : crcIt (8 * xs.length - i) 1 = crcIt (8 * xs.length - j) 1 := by
      have : (crcIt (8 * xs.length - i) 1 ^^^ crcIt (8 * xs.length - j) 1) ^^^ crcIt (8 * xs.length - j) 1 = 0 ^^^ crcIt (8 * xs.length - j) 1 := by rw [h2]
      rwa [Nat.xor_assoc, Nat.xor_self, Nat.xor_zero, Nat.zero_xor] at this
    exact absurd h3 (synd_ne (by omega) (by omega) (by omega))
  · simpa using h
end Go.Proofs.Ytdgffiaciccimaa

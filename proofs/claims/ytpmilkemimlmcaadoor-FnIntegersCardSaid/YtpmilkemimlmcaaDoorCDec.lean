/- The plain law of decimal numerals. No program in sight. -/
import Derived.Lib.ItoaNum
namespace Go.Proofs.YtpmilkemimlmcaaDoor
open Go.Lib

def digB (c : UInt8) : Bool := decide (48 ≤ c.toNat ∧ c.toNat ≤ 57)
def dval (a : Nat) (l : List UInt8) : Nat := l.foldl (fun n c => 10 * n + (c.toNat - 48)) a
def allD (l : List UInt8) : Bool := l.all digB
theorem dval_snoc (a : Nat) (l : List UInt8) (c : UInt8) : dval a (l ++ [c]) = 10 * dval a l + (c.toNat - 48) := by simp [dval]
theorem dval_cons (a : Nat) (c : UInt8) (l : List UInt8) : dval a (c :: l) = dval (10 * a + (c.toNat - 48)) l := by unfold dval; rw [List.foldl_cons]
theorem dig_toNat {d : Nat} (h : d < 10) : (UInt8.ofNat (48 + d)).toNat = 48 + d := by rw [UInt8.toNat_ofNat']; omega
theorem dig_ok {d : Nat} (h : d < 10) : digB (UInt8.ofNat (48 + d)) = true := by unfold digB; rw [dig_toNat h]; simp; omega
theorem dig_back {c : UInt8} (h : digB c = true) : UInt8.ofNat (48 + (c.toNat - 48)) = c := by
  unfold digB at h
  have := of_decide_eq_true h
  rw [show 48 + (c.toNat - 48) = c.toNat by omega]
  exact UInt8.ofNat_toNat
theorem dec_small {m : Nat} (h : m < 10) : decDigits m = [UInt8.ofNat (48 + m)] := by rw [decDigits, dif_pos h]
theorem dec_big {m : Nat} (h : ¬ m < 10) : decDigits m = decDigits (m / 10) ++ [UInt8.ofNat (48 + m % 10)] := by rw [decDigits, dif_neg h]
theorem dec_val (m : Nat) : dval 0 (decDigits m) = m := by
  induction m using Nat.strongRecOn with
  | _ m ih =>
    by_cases h : m < 10
    · rw [dec_small h]
      show 10 * 0 + ((UInt8.ofNat (48 + m)).toNat - 48) = m
      rw [dig_toNat h]; omega
    · rw [dec_big h, dval_snoc, ih (m / 10) (by omega), dig_toNat (by omega)]; omega
theorem dec_all (m : Nat) : allD (decDigits m) = true := by
  induction m using Nat.strongRecOn with
  | _ m ih =>
    by_cases h : m < 10
    · rw [dec_small h]; unfold allD; rw [List.all_cons, dig_ok h]; rfl
    · rw [dec_big h]
      have := ih (m / 10) (by omega)
      unfold allD at this ⊢
      rw [List.all_append, this, List.all_cons, dig_ok (show m % 10 < 10 by omega)]; rfl
theorem dec_ne (m : Nat) : decDigits m ≠ [] := by
  by_cases h : m < 10
  · rw [dec_small h]; simp
  · rw [dec_big h]; simp
theorem dec_head (m : Nat) : ∀ t, decDigits m = 48 :: t → t = [] := by
  induction m using Nat.strongRecOn with
  | _ m ih =>
    intro t ht
    by_cases h : m < 10
    · rw [dec_small h] at ht
      simp at ht
      exact ht.2
    · rw [dec_big h] at ht
      cases hd : decDigits (m / 10) with
      | nil => exact absurd hd (dec_ne _)
      | cons c t' =>
        rw [hd, List.cons_append, List.cons.injEq] at ht
        have hc := ht.1
        subst hc
        have ht' := ih (m / 10) (by omega) t' hd
        have hv := dec_val (m / 10)
        rw [hd, ht'] at hv
        have hz : dval 0 [48] = 0 := rfl
        omega
theorem dec_fold : ∀ (l : List UInt8) (a : Nat), 1 ≤ a → allD l = true → decDigits (dval a l) = decDigits a ++ l
  | [], a, _, _ => by simp [dval]
  | c :: t, a, ha, h => by
    unfold allD at h
    rw [List.all_cons, Bool.and_eq_true] at h
    have hc := of_decide_eq_true h.1
    rw [dval_cons, dec_fold t _ (by omega) h.2, dec_big (by omega), show (10 * a + (c.toNat - 48)) / 10 = a by omega, show (10 * a + (c.toNat - 48)) % 10 = c.toNat - 48 by omega, dig_back h.1]
    simp
/-- Does no zero lead? -/
def plainB : List UInt8 → Bool
  | c :: t => decide (c ≠ 48) || t.isEmpty
  | [] => false
theorem dec_of {l : List UInt8} (h : allD l = true) (hp : plainB l = true) : decDigits (dval 0 l) = l := by
  cases l with
  | nil => simp [plainB] at hp
  | cons c t =>
    have h' := h
    unfold allD at h
    rw [List.all_cons, Bool.and_eq_true] at h
    have hc := of_decide_eq_true h.1
    have hd : decDigits (c.toNat - 48) = [c] := by rw [dec_small (by omega), dig_back h.1]
    rw [dval_cons, show 10 * 0 + (c.toNat - 48) = c.toNat - 48 by omega]
    cases t with
    | nil => exact hd
    | cons x t =>
      have hne : c ≠ 48 := by simpa [plainB] using hp
      have hn : c.toNat ≠ 48 := fun e => hne (UInt8.toNat_inj.1 (by rw [e]; rfl))
      rw [dec_fold _ _ (by omega) h.2, hd]
      rfl
theorem dec_plain (m : Nat) : plainB (decDigits m) = true := by
  cases h : decDigits m with
  | nil => exact absurd h (dec_ne m)
  | cons c t =>
    by_cases hc : c = 48
    · rw [hc] at h
      rw [dec_head m t h]
      simp [plainB]
    · simp [plainB, hc]
theorem dec_iff {l : List UInt8} (h : allD l = true) : decDigits (dval 0 l) = l ↔ plainB l = true := by
  constructor
  · intro e
    rw [← e]
    exact dec_plain _
  · exact dec_of h
theorem nDig_le : ∀ (k m : Nat), 1 ≤ k → m < 10 ^ k → nDigits m ≤ k
  | 0, _, h, _ => by omega
  | k + 1, m, _, h => by
    by_cases hs : m < 10
    · rw [nDigits_small hs]; omega
    · rw [nDigits_big hs]
      cases k with
      | zero => simp at h; omega
      | succ k =>
        have := nDig_le (k + 1) (m / 10) (by omega) (by rw [Nat.pow_succ] at h; omega)
        omega
theorem dec_len {m : Nat} (h : m ≤ 1000000000000) : (decDigits m).length ≤ 13 := by
  rw [decDigits_length]
  exact nDig_le 13 m (by omega) (by omega)
theorem dval_lt : ∀ (l : List UInt8) (a : Nat), allD l = true → dval a l < (a + 1) * 10 ^ l.length
  | [], a, _ => by simp [dval]
  | c :: t, a, h => by
    unfold allD at h
    rw [List.all_cons, Bool.and_eq_true] at h
    have hc := of_decide_eq_true h.1
    rw [dval_cons, List.length_cons, Nat.pow_succ]
    have h1 := dval_lt t (10 * a + (c.toNat - 48)) h.2
    have h2 : (10 * a + (c.toNat - 48) + 1) * 10 ^ t.length ≤ (10 * (a + 1)) * 10 ^ t.length := Nat.mul_le_mul_right _ (by omega)
    have h3 : (10 * (a + 1)) * 10 ^ t.length = (a + 1) * (10 ^ t.length * 10) := by rw [Nat.mul_comm 10, Nat.mul_assoc, Nat.mul_comm 10]
    omega
/-- What ParseInt accepts, what it returns. -/
def pOk (l : List UInt8) : Bool := decide (1 ≤ l.length ∧ l.length ≤ 13) && (allD l && (plainB l && decide (dval 0 l ≤ 1000000000000)))
def pVal (l : List UInt8) : Nat := if pOk l = true then dval 0 l else 0
theorem pOk_dec {l : List UInt8} (h : pOk l = true) : decDigits (pVal l) = l ∧ pVal l ≤ 1000000000000 := by
  unfold pVal
  rw [if_pos h]
  unfold pOk at h
  simp only [Bool.and_eq_true, decide_eq_true_eq] at h
  exact ⟨dec_of h.2.1 h.2.2.1, h.2.2.2⟩
theorem pOk_in {m : Nat} (h : m ≤ 1000000000000) : pOk (decDigits m) = true ∧ pVal (decDigits m) = m := by
  have h1 : pOk (decDigits m) = true := by
    unfold pOk
    simp only [Bool.and_eq_true, decide_eq_true_eq]
    have hn := List.length_pos_iff.2 (dec_ne m)
    exact ⟨⟨hn, dec_len h⟩, dec_all m, dec_plain m, by rw [dec_val]; exact h⟩
  exact ⟨h1, by unfold pVal; rw [if_pos h1, dec_val]⟩
theorem pOk_out {m : Nat} (h : 1000000000000 < m) : pOk (decDigits m) = false := by
  unfold pOk
  rw [dec_val, decide_eq_false (show ¬ m ≤ 1000000000000 by omega)]
  simp
theorem pOk_neg (t : List UInt8) : pOk (45 :: t) = false := by
  unfold pOk allD
  rw [List.all_cons, show digB 45 = false by decide]
  simp
/-- The reference's loop. -/
def dd (m : Nat) : List UInt8 := if m = 0 then [] else decDigits m
theorem dd_step {m : Nat} (h : m ≠ 0) : dd m = dd (m / 10) ++ [UInt8.ofNat (48 + m % 10)] := by
  unfold dd
  rw [if_neg h]
  by_cases hs : m < 10
  · rw [if_pos (by omega), dec_small hs, show m % 10 = m by omega]; rfl
  · rw [if_neg (by omega), dec_big hs]
theorem itoa_pos {n : Int} (h : 0 < n) : itoa n = dd n.toNat := by
  unfold itoa dd
  rw [if_neg (by omega), if_neg (by omega)]
theorem itoa_zero : itoa 0 = [48] := by
  unfold itoa
  rw [if_neg (by omega)]
  exact dec_small (by decide)
theorem itoa_lt {n : Int} (h : n < 0) : itoa n = 45 :: dd (-n).toNat := by
  unfold itoa dd
  rw [if_pos h, if_neg (by omega), show n.natAbs = (-n).toNat by omega]
end Go.Proofs.YtpmilkemimlmcaaDoor

/- The plain law of the bits: bytes and integers are restored from their bits, the distance is the weight of the sum. -/
import Derived.Test.YtgaoiljedfogjaaCB2b
import Derived.Test.YtgaoiljedfogjaaCItb
import Derived.Test.YtgaoiljedfogjaaCXor
import Derived.Test.YtgaoiljedfogjaaCHam
namespace Go.Proofs.Ytgaoiljedfogjaa
open Go.RowKit
set_option linter.unusedVariables false
theorem itb_getD {n c k : Nat} (h : k < c) : (itb n c).getD k 0 = ((bitN n k : Nat) : Int) := by simp [itb, h]
theorem bvN_itb (n c : Nat) : ∀ k, k ≤ c → bvN (itb n c) k = n % 2 ^ k
  | 0, _ => by simp [bvN, Nat.mod_one]
  | k + 1, h => by
    rw [bvN, bvN_itb n c k (by omega), itb_getD (by omega), Int.toNat_natCast, Nat.mod_pow_succ, Nat.mul_comm (2 ^ k)]
    rfl
theorem itb_up (n c : Nat) : upTo 1 (itb n c) = true := by
  unfold upTo
  refine List.all_eq_true.2 fun x hx => ?_
  unfold itb at hx
  obtain ⟨i, _, rfl⟩ := List.mem_map.1 hx
  have := bitN_lt n i
  simp; omega
theorem up_append {m : Int} {xs ys : List Int} (hx : upTo m xs = true) (hy : upTo m ys = true) : upTo m (xs ++ ys) = true := by
  unfold upTo at *
  rw [List.all_append, hx, hy]; rfl
theorem btb_cons (x : Int) (t : List Int) : btb (x :: t) = itb x.toNat 8 ++ btb t := by simp [btb]
theorem btb_up : ∀ xs : List Int, upTo 1 (btb xs) = true
  | [] => rfl
  | x :: t => by rw [btb_cons]; exact up_append (itb_up _ _) (btb_up t)
theorem bv_pre {zs : List Int} (t : List Int) : ∀ k, k ≤ zs.length → bvN (zs ++ t) k = bvN zs k
  | 0, _ => rfl
  | k + 1, h => by
    rw [bvN, bvN, bv_pre t k (by omega)]
    congr 3
    simp only [List.getD_eq_getElem?_getD]
    rw [List.getElem?_append_left (by omega)]
theorem b2bL_cons {zs : List Int} (t : List Int) (h : zs.length = 8) : b2bL (zs ++ t) = ((bvN zs 8 : Nat) : Int) :: b2bL t := by
  unfold b2bL
  rw [List.length_append, h, show (8 + t.length) / 8 = t.length / 8 + 1 by omega, List.range_succ_eq_map, List.map_cons, List.map_map]
  congr 1
  · rw [Nat.mul_zero, List.drop_zero, bv_pre t 8 (by omega)]
  · apply List.map_congr_left
    intro j _
    show ((bvN ((zs ++ t).drop (8 * (j + 1))) 8 : Nat) : Int) = _
    rw [show 8 * (j + 1) = zs.length + 8 * j by omega, List.drop_append, List.drop_eq_nil_of_le (by omega)]
    simp
theorem b2bL_btb : ∀ xs : List Int, (∀ n ∈ xs, (Lit.int .u8 n).wf = true) → b2bL (btb xs) = xs
  | [], _ => rfl
  | x :: t, h => by
    have hx := bounds_u8 (h x (by simp))
    rw [btb_cons, b2bL_cons _ (itb_len _ _), b2bL_btb t (fun n hn => h n (by simp [hn])), bvN_itb _ _ 8 (Nat.le_refl _)]
    congr 1
    omega
theorem okB_btb (xs : List Int) : okB (btb xs) = true := by
  unfold okB
  rw [btb_up, btb_len]
  simp
theorem b2b_btb {xs : List Int} (h : ∀ n ∈ xs, (Lit.int .u8 n).wf = true) : b2b (btb xs) = xs := by
  unfold b2b
  rw [if_pos (okB_btb xs), b2bL_btb xs h]
theorem bitN_low {n b i k : Nat} (h : i < k) : bitN (n + b * 2 ^ k) i = bitN n i := by
  unfold bitN
  obtain ⟨d, rfl⟩ : ∃ d, k = i + (d + 1) := ⟨k - i - 1, by omega⟩
  have e : b * 2 ^ (i + (d + 1)) = 2 ^ i * (2 * (b * 2 ^ d)) := by rw [Nat.pow_add, Nat.pow_succ, Nat.mul_left_comm, ← Nat.mul_assoc b, Nat.mul_comm (b * 2 ^ d) 2]
  rw [e, Nat.add_mul_div_left _ _ (Nat.two_pow_pos i)]
  omega
theorem itb_low (n b k : Nat) : ∀ c, c ≤ k → itb (n + b * 2 ^ k) c = itb n c
  | 0, _ => rfl
  | c + 1, h => by rw [itb_succ, itb_succ, itb_low n b k c (by omega), bitN_low (by omega)]
theorem itb_bv {zs : List Int} (h : upTo 1 zs = true) : ∀ k, k ≤ zs.length → itb (bvN zs k) k = zs.take k
  | 0, _ => by simp [itb]
  | k + 1, hk => by
    have hm := upTo_mem h (mem_getD (show k < zs.length by omega) rfl)
    have hl := bvN_lt h k (by omega)
    rw [bvN, itb_succ, itb_low _ _ _ k (Nat.le_refl _), itb_bv h k (by omega), take_getD (by omega)]
    congr 2
    unfold bitN
    rw [Nat.add_mul_div_right _ _ (Nat.two_pow_pos k), Nat.div_eq_of_lt hl]
    omega
theorem btb_b2bL : ∀ (q : Nat) (l : List Int), l.length = 8 * q → upTo 1 l = true → btb (b2bL l) = l
  | 0, l, hl, _ => by
    obtain rfl : l = [] := List.eq_nil_of_length_eq_zero (by omega)
    rfl
  | q + 1, l, hl, hu => by
    have h8 : (l.take 8).length = 8 := by simp; omega
    have e : l = l.take 8 ++ l.drop 8 := (List.take_append_drop 8 l).symm
    conv => lhs; rw [e]
    rw [b2bL_cons _ h8, btb_cons, Int.toNat_natCast, itb_bv (upTo_take hu 8) 8 (by omega), btb_b2bL q _ (by simp; omega) (upTo_drop hu 8), List.take_take, Nat.min_self, List.take_append_drop]
theorem btb_b2b {l : List Int} (h : okB l = true) : btb (b2b l) = l := by
  unfold b2b
  rw [if_pos h]
  unfold okB at h
  simp only [Bool.and_eq_true, decide_eq_true_eq] at h
  exact btb_b2bL (l.length / 8) l (by omega) h.1
theorem b2i_itb {n : Nat} (h : n < 65536) : b2i (itbI (n : Int) 16) = n := by
  have e : itbI (n : Int) 16 = itb n 16 := by
    unfold itbI
    rw [if_pos ⟨by omega, by omega, by omega⟩]
    rfl
  rw [e]
  unfold b2i
  rw [if_pos ⟨itb_up _ _, by rw [itb_len]; omega⟩, itb_len, bvN_itb _ _ 16 (Nat.le_refl _)]
  exact Nat.mod_eq_of_lt h
theorem wt_snoc (xs : List Int) (x : Int) : wt (xs ++ [x]) = if x = 1 then wt xs + 1 else wt xs := by
  unfold wt; rw [List.foldl_append]; rfl
theorem wt_xorN {xs ys : List Int} (hx : upTo 1 xs = true) (hy : upTo 1 ys = true) : ∀ k, k ≤ xs.length → k ≤ ys.length → wt (xorN xs ys k) = hamN xs ys k
  | 0, _, _ => rfl
  | k + 1, h1, h2 => by
    have a := upTo_mem hx (mem_getD (show k < xs.length by omega) rfl)
    have b := upTo_mem hy (mem_getD (show k < ys.length by omega) rfl)
    rw [xorN_succ, wt_snoc, wt_xorN hx hy k (by omega) (by omega), hamN]
    by_cases h : xs.getD k 0 = ys.getD k 0
    · rw [if_pos h, if_neg (by omega)]
    · rw [if_neg h, if_pos (by omega)]
theorem mm_same (n : Nat) : mnI (n : Int) n = n ∧ mxI (n : Int) n = n := by unfold mnI mxI; simp
theorem wt_xor {xs ys : List Int} (hx : upTo 1 xs = true) (hy : upTo 1 ys = true) (hl : xs.length = ys.length) : wt (xorB xs ys) = ham xs ys := by
  unfold xorB ham
  rw [← hl, (mm_same _).1, (mm_same _).2, Int.toNat_natCast, wt_xorN hx hy _ (Nat.le_refl _) (by omega)]
  omega
theorem xorB_same {xs ys : List Int} (hl : xs.length = ys.length) : xorB xs ys = xorN xs ys xs.length := by
  unfold xorB
  rw [← hl, (mm_same _).1, Int.toNat_natCast]
theorem xor_back {xs ys : List Int} (hx : upTo 1 xs = true) (hl : xs.length = ys.length) : xorB (xorB xs ys) ys = xs := by
  have h1 : (xorN xs ys xs.length).length = xs.length := xorN_len _ _ _
  rw [xorB_same hl, xorB_same (by omega), h1]
  apply List.ext_getElem
  · rw [xorN_len]
  · intro i h2 h3
    have a := upTo_mem hx (List.getElem_mem h3)
    have e : (xorN xs ys xs.length).getD i 0 = (xs[i] + ys.getD i 0) % 2 := by simp [xorN, h3]
    have e2 : (xorN (xorN xs ys xs.length) ys xs.length)[i] = ((xorN xs ys xs.length).getD i 0 + ys.getD i 0) % 2 := by simp [xorN]
    rw [e2, e]
    omega
end Go.Proofs.Ytgaoiljedfogjaa

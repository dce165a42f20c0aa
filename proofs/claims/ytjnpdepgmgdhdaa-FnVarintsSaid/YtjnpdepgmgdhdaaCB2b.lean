/- Contracts of BitsToBytes (program and reference). -/
import Derived.Test.YtjnpdepgmgdhdaaCB2i
import Derived.Test.YtjnpdepgmgdhdaaCItb
import Derived.BigRegion
namespace Go.Proofs.Ytjnpdepgmgdhdaa
open Go.RowKit
set_option linter.unusedVariables false

/-- The bytes of a bit string whose first i bits have been laid; all of them. -/
def b2bN (xs : List Int) (i : Nat) : List Int := (List.range (xs.length / 8)).map fun j => ((bvN (xs.drop (8 * j)) (min 8 (i - 8 * j)) : Nat) : Int)
def b2bL (xs : List Int) : List Int := (List.range (xs.length / 8)).map fun j => ((bvN (xs.drop (8 * j)) 8 : Nat) : Int)
def okB (xs : List Int) : Bool := upTo 1 xs && decide (xs.length % 8 = 0)
def b2b (xs : List Int) : List Int := if okB xs = true then b2bL xs else []
theorem b2bN_len (xs : List Int) (i : Nat) : (b2bN xs i).length = xs.length / 8 := by simp [b2bN]
theorem b2bL_len (xs : List Int) : (b2bL xs).length = xs.length / 8 := by simp [b2bL]
theorem b2b_len (xs : List Int) : (b2b xs).length ≤ xs.length := by
  unfold b2b; split
  · rw [b2bL_len]; omega
  · simp
theorem b2bN_zero (xs : List Int) : b2bN xs 0 = List.replicate (xs.length / 8) 0 := by
  apply List.ext_getElem
  · simp [b2bN]
  · intro n h1 h2; simp [b2bN, bvN]
theorem b2bN_all {xs : List Int} (h : xs.length % 8 = 0) : b2bN xs xs.length = b2bL xs := by
  apply List.ext_getElem
  · simp [b2bN, b2bL]
  · intro n h1 h2
    have h3 : n < xs.length / 8 := by simpa [b2bN] using h1
    simp only [b2bN, b2bL, List.getElem_map, List.getElem_range]
    rw [show min 8 (xs.length - 8 * n) = 8 by omega]
theorem b2bN_getD {xs : List Int} {i j : Nat} (h : j < xs.length / 8) : (b2bN xs i).getD j 0 = ((bvN (xs.drop (8 * j)) (min 8 (i - 8 * j)) : Nat) : Int) := by
  simp [b2bN, h]
theorem b2bN_set {xs : List Int} {i : Nat} (h : i < xs.length) (h8 : xs.length % 8 = 0) : (b2bN xs i).set (i / 8) ((bvN (xs.drop (8 * (i / 8))) (i % 8 + 1) : Nat) : Int) = b2bN xs (i + 1) := by
  apply List.ext_getElem
  · simp [b2bN]
  · intro n h1 h2
    have h3 : n < xs.length / 8 := by simpa [b2bN] using h2
    rw [List.getElem_set]
    simp only [b2bN, List.getElem_map, List.getElem_range]
    split
    · next he => subst he; rw [show min 8 (i + 1 - 8 * (i / 8)) = i % 8 + 1 by omega]
    · next he =>
      rcases Nat.lt_or_gt_of_ne he with hlt | hgt
      · rw [show i - 8 * n = 0 by omega, show i + 1 - 8 * n = 0 by omega]
      · rw [show min 8 (i - 8 * n) = 8 by omega, show min 8 (i + 1 - 8 * n) = 8 by omega]
theorem drop_getD (xs : List Int) (a k : Nat) : (xs.drop a).getD k 0 = xs.getD (a + k) 0 := by
  simp [List.getD_eq_getElem?_getD, List.getElem?_drop]
theorem upTo_drop {m : Int} {xs : List Int} (h : upTo m xs = true) (a : Nat) : upTo m (xs.drop a) = true := by
  unfold upTo at *
  exact List.all_eq_true.2 fun x hx => List.all_eq_true.1 h x (List.mem_of_mem_drop hx)
theorem upTo_take {m : Int} {xs : List Int} (h : upTo m xs = true) (a : Nat) : upTo m (xs.take a) = true := by
  unfold upTo at *
  exact List.all_eq_true.2 fun x hx => List.all_eq_true.1 h x (List.mem_of_mem_take hx)
theorem bvN_take (xs : List Int) : ∀ n k, k ≤ n → bvN (xs.take n) k = bvN xs k
  | n, 0, _ => rfl
  | n, k + 1, h => by
    rw [bvN, bvN, bvN_take xs n k (by omega)]
    simp only [List.getD_eq_getElem?_getD]
    rw [List.getElem?_take_of_lt (by omega)]
theorem b2i_eight {xs : List Int} (h : upTo 1 xs = true) {j : Nat} (hj : 8 * j + 8 ≤ xs.length) : b2i ((xs.drop (8 * j)).take 8) = bvN (xs.drop (8 * j)) 8 := by
  have hl : ((xs.drop (8 * j)).take 8).length = 8 := by simp; omega
  unfold b2i
  rw [if_pos ⟨upTo_take (upTo_drop h _) _, by omega⟩, hl, bvN_take _ 8 8 (Nat.le_refl _)]
theorem b2bL_take (xs : List Int) (j : Nat) (h : j < xs.length / 8) : (b2bL xs).take (j + 1) = (b2bL xs).take j ++ [((bvN (xs.drop (8 * j)) 8 : Nat) : Int)] := by
  rw [List.take_succ_eq_append_getElem (by rw [b2bL_len]; exact h)]
  simp [b2bL]
theorem Rd.sub {k : IntKind} {w wr : World} {b off n c j m : Nat} {xs : List Int} (h : Rd k w (.slice (some ⟨b, off, none⟩) n c) xs) (hb : Below w.heap.size w wr) (hm : 0 < m) (hj : j + m ≤ xs.length) :
    Rd k wr (.slice (some ⟨b, off + j, none⟩) m (c - j)) ((xs.drop j).take m) := by
  have hl : ((xs.drop j).take m).length = m := by simp; omega
  refine ⟨fun y hy => h.1 y (List.mem_of_mem_drop (List.mem_of_mem_take hy)), ?_⟩
  rcases h.2 with ⟨rfl, _⟩ | ⟨h0, b', off', c', hv, h1, h2, hc⟩
  · simp at hj; omega
  · simp only [Value.slice.injEq, Option.some.injEq, Addr.mk.injEq, and_true] at hv
    obtain ⟨⟨rfl, rfl⟩, rfl, rfl⟩ := hv
    have hlt : b < w.heap.size := World.block_lt_of_cell? w _ (hc 0 h0)
    refine .inr ⟨by omega, b, off + j, c - j, by rw [hl], by omega, by omega, fun i hi => ?_⟩
    rw [hb.cell (show b < w.heap.size from hlt), Nat.add_assoc, hc (j + i) (by omega)]
    congr 2
    simp only [List.getD_eq_getElem?_getD]
    rw [List.getElem?_take_of_lt (by omega), List.getElem?_drop]
theorem Rd.cap {k : IntKind} {w : World} {a : Option Addr} {n c : Nat} {xs : List Int} (h : Rd k w (.slice a n c) xs) (h0 : 0 < xs.length) : xs.length ≤ c ∧ c ≤ 9223372036854775807 := by
  rcases h.2 with ⟨rfl, _⟩ | ⟨_, b, off, c', hv, h1, h2, _⟩
  · simp at h0
  · simp only [Value.slice.injEq] at hv
    unfold maxLen at h2; omega
theorem u8_or_nat (a b : Nat) (ha : a < 256) (hb : b < 256) : bits .or .u8 (a : Int) (b : Int) = ((a ||| b : Nat) : Int) := by
  have hx : a ||| b < 2 ^ 8 := Nat.or_lt_two_pow (by omega) (by omega)
  show IntKind.u8.wrap ((BitVec.ofInt 8 (a : Int) ||| BitVec.ofInt 8 (b : Int)).toNat : Int) = _
  rw [BitVec.toNat_or, BitVec.ofInt_natCast, BitVec.ofInt_natCast, BitVec.toNat_ofNat, BitVec.toNat_ofNat, Nat.mod_eq_of_lt (by omega), Nat.mod_eq_of_lt (by omega), IntKind.wrap_u8]
  omega
theorem pow8 {k : Nat} (h : k ≤ 8) : 2 ^ k ≤ 256 := Nat.le_trans (Nat.pow_le_pow_right (by omega) h) (by decide)
theorem or_bits8 {n b k : Nat} (hk : k < 8) (hn : n < 2 ^ k) (hb : b ≤ 1) : bits .or .u8 (n : Int) ((b : Int) * 2 ^ k) = ((n + b * 2 ^ k : Nat) : Int) := by
  have e : (b : Int) * 2 ^ k = ((b * 2 ^ k : Nat) : Int) := by simp
  have h1 : 2 ^ k ≤ 128 := Nat.le_trans (Nat.pow_le_pow_right (by omega) (show k ≤ 7 by omega)) (by decide)
  have h2 : b * 2 ^ k ≤ 1 * 2 ^ k := Nat.mul_le_mul_right _ hb
  rw [e, u8_or_nat _ _ (by omega) (by omega), or_add hn]

end Go.Proofs.Ytjnpdepgmgdhdaa

/- Contracts of ReadBytes and DecodeInts (program and reference). -/
import Derived.Test.YtjnpdepgmgdhdaaCEnc
import Derived.Test.YtjnpdepgmgdhdaaCB2b
namespace Go.Proofs.Ytjnpdepgmgdhdaa
open Go.RowKit
set_option linter.unusedVariables false

theorem ruL_case (xs : List Int) (o : Nat) : ∀ f k, ruL xs o f k = (0, 0, false) ∨ ∃ n x : Nat, ruL xs o f k = ((n : Int), (x : Int), true) ∧ n ≤ 1000000000000 ∧ x ≤ xs.length ∧ o < x
  | 0, _ => .inl rfl
  | f + 1, k => by
    rw [ruL]
    split
    · exact .inl rfl
    · split
      · split
        · exact .inl rfl
        · exact .inr ⟨_, _, rfl, by omega, by omega, by omega⟩
      · exact ruL_case xs o f (k + 1)
theorem ru_case (xs : List Int) (o : Int) : ru xs o = (0, 0, false) ∨ ∃ n x : Nat, ru xs o = ((n : Int), (x : Int), true) ∧ n ≤ 1000000000000 ∧ x ≤ xs.length ∧ o < x ∧ 0 ≤ o := by
  unfold ru
  split
  · exact .inl rfl
  · rcases ruL_case xs o.toNat 6 0 with h | ⟨n, x, h, h1, h2, h3⟩
    · exact .inl h
    · exact .inr ⟨n, x, h, h1, h2, by omega, by omega⟩
/-- What ReadBytes returns. -/
def rbO (xs : List Int) (o m : Int) : Bool := (ru xs o).2.2 && decide ((ru xs o).1 ≤ m ∧ (ru xs o).1 ≤ xs.length - (ru xs o).2.1)
def rbL (xs : List Int) (o m : Int) : List Int := if rbO xs o m = true then (xs.drop (ru xs o).2.1.toNat).take (ru xs o).1.toNat else []
def rbN (xs : List Int) (o m : Int) : Int := if rbO xs o m = true then (ru xs o).2.1 + (ru xs o).1 else 0
theorem rbL_len (xs : List Int) (o m : Int) : (rbL xs o m).length ≤ xs.length := by
  unfold rbL; split
  · simp; omega
  · simp
/-- A piece of a slice, however short: whatever address the walk gives an empty one. -/
theorem Rd.piece {k : IntKind} {w wr : World} {b off n c j m : Nat} {xs : List Int} (h : Rd k w (.slice (some ⟨b, off, none⟩) n c) xs) (hb : Below w.heap.size w wr) (hj : j + m ≤ xs.length) (hc : c ≤ maxLen) {a : Addr} {c' : Nat} (ha : 0 < m → a = ⟨b, off + j, none⟩) (hc' : c' = c - j) :
    Rd k wr (.slice (some a) m c') ((xs.drop j).take m) := by
  rcases Nat.eq_zero_or_pos m with rfl | h0
  · exact ⟨by simp, .inl ⟨by simp, _, c', rfl, by omega, fun h => by cases h⟩⟩
  · rw [ha h0, hc']
    exact h.sub hb h0 hj

set_option maxHeartbeats 1600000 in
theorem impl_ReadBytes (u : Value) (xs : List Int) (o m : Int) (w : World) (hu : Rd .u8 w u xs) (hob : -9223372036854775808 ≤ o ∧ o ≤ 9223372036854775807) (hmb : -9223372036854775808 ≤ m ∧ m ≤ 9223372036854775807) (hn : xs.length ≤ 1073741824) :
    Calls Try.prog 22 #[u, .int .i64 o, .int .i64 m] w (FreshT .u8 5 (rbL xs o m) [.int .i64 (rbN xs o m), .bool (rbO xs o m)] w) := by
  have cr := fun W h => impl_ReadUvarint u xs o W h hob hn
  rcases ru_case xs o with h | ⟨n, x, h, h1, h2, h3, h4⟩
  · have hO : rbO xs o m = false := by simp [rbO, h]
    have hL : rbL xs o m = [] := if_neg (by rw [hO]; simp)
    have hN : rbN xs o m = 0 := if_neg (by rw [hO]; simp)
    rw [hO, hL, hN]
    rw [h] at cr
    have CR := Lib.hid cr
    clear cr h hO hL hN
    obtain ⟨a, c, rfl⟩ := hu.shape
    go_enter Try.func22, Try.ntmps22
    go_wp2_with fail
    refine (CR.out _ hu).mono ?_
    rintro e w1 ⟨rfl, b1⟩
    have s1 := b1.size
    go_wp2_with fail
    go_ret3
    exact ⟨_, rfl, (own_lit0 w1 s1).top, b1.alloc s1 _⟩
  · by_cases hok : (n : Int) ≤ m ∧ (n : Int) ≤ (xs.length : Int) - (x : Int)
    · obtain ⟨k1, k2⟩ := hok
      rcases hu.parts with ⟨h0, -⟩ | ⟨h0, b, off, c, rfl⟩
      · rw [h0] at h2; simp at h2; omega
      obtain ⟨hc1, hc2⟩ := hu.cap h0
      have hO : rbO xs o m = true := by simp [rbO, h, k1]; omega
      have hL : rbL xs o m = (xs.drop x).take n := by rw [rbL, if_pos hO, h]; simp
      have hN : rbN xs o m = (x : Int) + (n : Int) := by rw [rbN, if_pos hO, h]
      rw [hO, hL, hN]
      rw [h] at cr
      have CR := Lib.hid cr
      have hzl : ((xs.drop x).take n).length ≤ 1073741824 := by simp; omega
      obtain ⟨zs, hz⟩ : ∃ zs, zs = (xs.drop x).take n := ⟨_, rfl⟩
      have HZ := Lib.hid hz
      rw [← hz] at hzl ⊢
      clear cr h hO hL hN hz
      have i1 : (x : Int) ≤ (c : Int) := by omega
      have i2 : (x : Int) + (n : Int) ≤ (c : Int) := by omega
      have i3 : (x : Int) + (n : Int) ≤ (xs.length : Int) := by omega
      have d1 : decide (m < (n : Int)) = false := by simp; omega
      have d2 : decide ((xs.length : Int) - (x : Int) < (n : Int)) = false := by simp; omega
      by_cases hcx : c = x
      · have hn0 : n = 0 := by omega
        subst hn0
        subst hcx
        go_enter Try.func22, Try.ntmps22
        go_wp2_with fail
        refine (CR.out _ hu).mono ?_
        rintro e w1 ⟨rfl, b1⟩
        have s1 := b1.size
        have rz := fun (a : Addr) (c' : Nat) => hu.piece (wr := w1) (j := c) (m := 0) (a := a) (c' := c') b1 (by omega) (by unfold maxLen; omega)
        rw [← HZ.out] at rz
        have RZ := Lib.hid rz
        clear rz
        go_wp2_with fail
        refine (impl_copyBytes _ _ _ (RZ.out _ _ (fun q => absurd q (by omega)) (by omega)) hzl).mono ?_
        rintro e w2 ⟨v2, rfl, o2, b2⟩
        have b2' := below_next b1 b2
        go_wp2_with fail
        go_ret3
        exact ⟨_, by first | rfl | simp, o2.mono s1 (Nat.le_refl _), b2'⟩
      · go_enter Try.func22, Try.ntmps22
        go_wp2_with fail
        refine (CR.out _ hu).mono ?_
        rintro e w1 ⟨rfl, b1⟩
        have s1 := b1.size
        have rz := fun (a : Addr) (c' : Nat) => hu.piece (wr := w1) (j := x) (m := n) (a := a) (c' := c') b1 (by omega) (by unfold maxLen; omega)
        rw [← HZ.out] at rz
        have RZ := Lib.hid rz
        clear rz
        go_wp2_with fail
        refine (impl_copyBytes _ _ _ (RZ.out _ _ (fun _ => rfl) rfl) hzl).mono ?_
        rintro e w2 ⟨v2, rfl, o2, b2⟩
        have b2' := below_next b1 b2
        go_wp2_with fail
        go_ret3
        exact ⟨_, by first | rfl | simp, o2.mono s1 (Nat.le_refl _), b2'⟩
    · have hO : rbO xs o m = false := by simp [rbO, h]; omega
      have hL : rbL xs o m = [] := if_neg (by rw [hO]; simp)
      have hN : rbN xs o m = 0 := if_neg (by rw [hO]; simp)
      rw [hO, hL, hN]
      rw [h] at cr
      have CR := Lib.hid cr
      clear cr h hO hL hN
      obtain ⟨a, c, rfl⟩ := hu.shape
      rcases (show m < (n : Int) ∨ ((n : Int) ≤ m ∧ (xs.length : Int) - (x : Int) < (n : Int)) by omega) with k1 | ⟨k1, k2⟩
      · have d1 : decide (m < (n : Int)) = true := by simp; omega
        clear hok
        go_enter Try.func22, Try.ntmps22
        go_wp2_with fail
        refine (CR.out _ hu).mono ?_
        rintro e w1 ⟨rfl, b1⟩
        have s1 := b1.size
        go_wp2_with fail
        go_ret3
        exact ⟨_, rfl, (own_lit0 w1 s1).top, b1.alloc s1 _⟩
      · have d1 : decide (m < (n : Int)) = false := by simp; omega
        have d2 : decide ((xs.length : Int) - (x : Int) < (n : Int)) = true := by simp; omega
        clear hok
        go_enter Try.func22, Try.ntmps22
        go_wp2_with fail
        refine (CR.out _ hu).mono ?_
        rintro e w1 ⟨rfl, b1⟩
        have s1 := b1.size
        go_wp2_with fail
        go_ret3
        exact ⟨_, rfl, (own_lit0 w1 s1).top, b1.alloc s1 _⟩
set_option maxHeartbeats 1600000 in
theorem spec_ReadBytes (u : Value) (xs : List Int) (o m : Int) (w : World) (hu : Rd .u8 w u xs) (hob : -9223372036854775808 ≤ o ∧ o ≤ 9223372036854775807) (hmb : -9223372036854775808 ≤ m ∧ m ≤ 9223372036854775807) (hn : xs.length ≤ 1073741824) :
    Calls Try.prog 21 #[u, .int .i64 o, .int .i64 m] w (FreshT .u8 5 (rbL xs o m) [.int .i64 (rbN xs o m), .bool (rbO xs o m)] w) := by
  have cr := fun W h => spec_ReadUvarint u xs o W h hob hn
  rcases ru_case xs o with h | ⟨n, x, h, h1, h2, h3, h4⟩
  · have hO : rbO xs o m = false := by simp [rbO, h]
    have hL : rbL xs o m = [] := if_neg (by rw [hO]; simp)
    have hN : rbN xs o m = 0 := if_neg (by rw [hO]; simp)
    rw [hO, hL, hN]
    rw [h] at cr
    have CR := Lib.hid cr
    clear cr h hO hL hN
    obtain ⟨a, c, rfl⟩ := hu.shape
    go_enter Try.func21, Try.ntmps21
    go_wp2_with fail
    refine (CR.out _ hu).mono ?_
    rintro e w1 ⟨rfl, b1⟩
    have s1 := b1.size
    go_wp2_with fail
    go_ret3
    exact ⟨_, rfl, (own_lit0 w1 s1).top, b1.alloc s1 _⟩
  · by_cases hok : (n : Int) ≤ m ∧ (n : Int) ≤ (xs.length : Int) - (x : Int)
    · obtain ⟨k1, k2⟩ := hok
      rcases hu.parts with ⟨h0, -⟩ | ⟨h0, b, off, c, rfl⟩
      · rw [h0] at h2; simp at h2; omega
      obtain ⟨hc1, hc2⟩ := hu.cap h0
      have hO : rbO xs o m = true := by simp [rbO, h, k1]; omega
      have hL : rbL xs o m = (xs.drop x).take n := by rw [rbL, if_pos hO, h]; simp
      have hN : rbN xs o m = (x : Int) + (n : Int) := by rw [rbN, if_pos hO, h]
      rw [hO, hL, hN]
      rw [h] at cr
      have CR := Lib.hid cr
      have hzl : ((xs.drop x).take n).length ≤ 1073741824 := by simp; omega
      obtain ⟨zs, hz⟩ : ∃ zs, zs = (xs.drop x).take n := ⟨_, rfl⟩
      have HZ := Lib.hid hz
      rw [← hz] at hzl ⊢
      clear cr h hO hL hN hz
      have i1 : (x : Int) ≤ (c : Int) := by omega
      have i2 : (x : Int) + (n : Int) ≤ (c : Int) := by omega
      have i3 : (x : Int) + (n : Int) ≤ (xs.length : Int) := by omega
      have d1 : decide (m < (n : Int)) = false := by simp; omega
      have d2 : decide ((xs.length : Int) - (x : Int) < (n : Int)) = false := by simp; omega
      by_cases hcx : c = x
      · have hn0 : n = 0 := by omega
        subst hn0
        subst hcx
        go_enter Try.func21, Try.ntmps21
        go_wp2_with fail
        refine (CR.out _ hu).mono ?_
        rintro e w1 ⟨rfl, b1⟩
        have s1 := b1.size
        have b1' : Below w.heap.size w (w1.alloc (.cells #[] 5)) := b1.alloc s1 _
        have rz := fun (a : Addr) (c' : Nat) => hu.piece (wr := w1.alloc (.cells #[] 5)) (j := c) (m := 0) (a := a) (c' := c') b1' (by omega) (by unfold maxLen; omega)
        rw [← HZ.out] at rz
        have RZ := Lib.hid rz
        clear rz
        go_wp2_with (at_builtin; refine wpList_app _ rfl (.tmp 35) (.tmp 41) 22 rfl w.heap.size 5 .u8 1 Try.underlying22 info8 (by omega) _ _ [] zs rfl rfl (own_lit0 _ s1) (RZ.out _ _ (fun q => absurd q (by omega)) (by omega)) (by simp; omega) (by simp; omega) ?_)
        intro v2 w2 o2 b2
        have b2' := b1'.trans b2
        go_wp2
        go_ret3
        exact ⟨_, by first | rfl | simp, o2, b2'⟩
      · go_enter Try.func21, Try.ntmps21
        go_wp2_with fail
        refine (CR.out _ hu).mono ?_
        rintro e w1 ⟨rfl, b1⟩
        have s1 := b1.size
        have b1' : Below w.heap.size w (w1.alloc (.cells #[] 5)) := b1.alloc s1 _
        have rz := fun (a : Addr) (c' m' : Nat) (hm : m' = n) => (show _ from by subst hm; exact hu.piece (wr := w1.alloc (.cells #[] 5)) (j := x) (m := m') (a := a) (c' := c') b1' (by omega) (by unfold maxLen; omega) : (0 < n → a = ⟨b, off + x, none⟩) → c' = c - x → Rd .u8 (w1.alloc (.cells #[] 5)) (.slice (some a) m' c') ((xs.drop x).take n))
        rw [← HZ.out] at rz
        have RZ := Lib.hid rz
        clear rz
        go_wp2_with (at_builtin; refine wpList_app _ rfl (.tmp 35) (.tmp 41) 22 rfl w.heap.size 5 .u8 1 Try.underlying22 info8 (by omega) _ _ [] zs rfl rfl (own_lit0 _ s1) (RZ.out _ _ _ (by omega) (fun _ => rfl) rfl) (by simp; omega) (by simp; omega) ?_)
        intro v2 w2 o2 b2
        have b2' := b1'.trans b2
        go_wp2
        go_ret3
        exact ⟨_, by first | rfl | simp, o2, b2'⟩
    · have hO : rbO xs o m = false := by simp [rbO, h]; omega
      have hL : rbL xs o m = [] := if_neg (by rw [hO]; simp)
      have hN : rbN xs o m = 0 := if_neg (by rw [hO]; simp)
      rw [hO, hL, hN]
      rw [h] at cr
      have CR := Lib.hid cr
      clear cr h hO hL hN
      obtain ⟨a, c, rfl⟩ := hu.shape
      rcases (show m < (n : Int) ∨ ((n : Int) ≤ m ∧ (xs.length : Int) - (x : Int) < (n : Int)) by omega) with k1 | ⟨k1, k2⟩
      · have d1 : decide (m < (n : Int)) = true := by simp; omega
        clear hok
        go_enter Try.func21, Try.ntmps21
        go_wp2_with fail
        refine (CR.out _ hu).mono ?_
        rintro e w1 ⟨rfl, b1⟩
        have s1 := b1.size
        go_wp2_with fail
        go_ret3
        exact ⟨_, rfl, (own_lit0 w1 s1).top, b1.alloc s1 _⟩
      · have d1 : decide (m < (n : Int)) = false := by simp; omega
        have d2 : decide ((xs.length : Int) - (x : Int) < (n : Int)) = true := by simp; omega
        clear hok
        go_enter Try.func21, Try.ntmps21
        go_wp2_with fail
        refine (CR.out _ hu).mono ?_
        rintro e w1 ⟨rfl, b1⟩
        have s1 := b1.size
        go_wp2_with fail
        go_ret3
        exact ⟨_, rfl, (own_lit0 w1 s1).top, b1.alloc s1 _⟩
end Go.Proofs.Ytjnpdepgmgdhdaa

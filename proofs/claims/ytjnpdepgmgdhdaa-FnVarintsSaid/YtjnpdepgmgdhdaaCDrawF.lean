/- The draws of numbers and of varints. -/
import Derived.Test.YtjnpdepgmgdhdaaCDrawC
import Derived.Test.YtjnpdepgmgdhdaaCAuv
namespace Go.Proofs.Ytjnpdepgmgdhdaa
open Go.RowKit
set_option linter.unusedVariables false

/-- What a Draw of a list and an int leaves. -/
def LotJ (a b : Int) (k : IntKind) (E : TypeId) (P : List Int → Prop) (w : World) (e : Ending) (w' : World) : Prop :=
  (∃ x u ys, e = .returned (.tuple #[u, .int .i64 x]) ∧ (a ≤ x ∧ x ≤ b) ∧ Own k E w' w.heap.size w'.heap.size u ys ∧ P ys) ∧ Below w.heap.size w w'
/-- What a Draw of two lists leaves. -/
def Lot2 (k : IntKind) (E : TypeId) (P Q : List Int → Prop) (w : World) (e : Ending) (w' : World) : Prop :=
  (∃ u ys v zs, e = .returned (.tuple #[u, v]) ∧ Own k E w' w.heap.size w'.heap.size u ys ∧ P ys ∧ Own k E w' w.heap.size w'.heap.size v zs ∧ Q zs) ∧ Below w.heap.size w w'
theorem odd_wf : ∀ x ∈ ([-1, 0, 1, 2, 255, 256, 65535, 2147483647, 2147483648, 4294967295, 4294967296, -2147483648, 9223372036854775807, -9223372036854775808] : List Int), -9223372036854775808 ≤ x ∧ x ≤ 9223372036854775807 := by decide
set_option maxRecDepth 100000 in
set_option maxHeartbeats 1600000 in
theorem l1Odd (v : Value) (B T : Nat) (w : World) (hv : Cur w B T v) :
    Calls Try.prog 50 #[v] w (DrewI (-9223372036854775808) 9223372036854775807 B T v w) := by
  go_enter Try.func50, Try.ntmps50
  go_wp2_with fail
  refine (l1Int v _ [-1, 0, 1, 2, 255, 256, 65535, 2147483647, 2147483648, 4294967295, 4294967296, -2147483648, 9223372036854775807, -9223372036854775808] B T _ _ _ (hv.next ((Below.refl _ _).alloc (Nat.le_refl _) _)) (by exact own_litT w [-1, 0, 1, 2, 255, 256, 65535, 2147483647, 2147483648, 4294967295, 4294967296, -2147483648, 9223372036854775807, -9223372036854775808] (by simp [maxLen]) (by decide)) hv.sz.1 (by simp) (by simp)).mono ?_
  rintro e w1 ⟨⟨x, rfl, hx⟩, hc1, ho1⟩
  have hx' := odd_wf x hx
  clear hx
  go_wp2
  go_ret
  exact ⟨⟨_, rfl, hx'⟩, hc1, ((Only.refl _ _ _).alloc _).trans ho1⟩
set_option maxHeartbeats 1600000 in
theorem l1Raw (v : Value) (B T : Nat) (w : World) (hv : Cur w B T v) :
    Calls Try.prog 49 #[v] w (DrewI (-9223372036854775808) 9223372036854775807 B T v w) := by
  go_enter Try.func49, Try.ntmps49
  go_wp2_with fail
  refine (l1Once v 2 B T _ hv (by omega) (by omega)).mono ?_
  rintro e w1 ⟨⟨b, rfl⟩, hc1, ho1⟩
  cases b
  · go_wp2_with fail
    refine (l1Int v _ [-1, 1000000000000, 1000000000001] B T _ _ _ (hc1.next ((Below.refl _ _).alloc (Nat.le_refl _) _)) (by exact own_litT w1 [-1, 1000000000000, 1000000000001] (by simp [maxLen]) (by decide)) hc1.sz.1 (by simp) (by simp)).mono ?_
    rintro e w2 ⟨⟨x, rfl, hx⟩, hc2, ho2⟩
    have hx' : -9223372036854775808 ≤ x ∧ x ≤ 9223372036854775807 := by simp at hx; omega
    clear hx
    go_wp2
    go_ret
    exact ⟨⟨_, rfl, hx'⟩, hc2, (ho1.alloc _).trans ho2⟩
  · go_wp2_with fail
    refine (l1Odd v B T _ hc1).mono ?_
    rintro e w2 ⟨⟨x, rfl, hx⟩, hc2, ho2⟩
    go_wp2
    go_ret
    exact ⟨⟨_, rfl, hx⟩, hc2, ho1.trans ho2⟩
set_option maxHeartbeats 1600000 in
theorem l1Num (v : Value) (B T : Nat) (w : World) (hv : Cur w B T v) :
    Calls Try.prog 46 #[v] w (DrewI 0 1000000000000 B T v w) := by
  have CB := Lib.hid (fun v' n' B' T' w' h' => l1Below v' n' B' T' w' h')
  go_enter Try.func46, Try.ntmps46
  go_wp2_with fail
  refine (CB.out v 4 B T _ hv (by omega) (by omega)).mono ?_
  rintro e w1 ⟨⟨m, rfl, hm⟩, hc1, ho1⟩
  rcases (show m = 0 ∨ m = 1 ∨ m = 2 ∨ m = 3 by omega) with rfl | rfl | rfl | rfl
  · go_wp2_with fail
    refine (CB.out v 2000 B T _ hc1 (by omega) (by omega)).mono ?_
    rintro e w2 ⟨⟨x, rfl, hx⟩, hc2, ho2⟩
    go_wp2
    go_ret
    exact ⟨⟨_, rfl, by omega, by omega⟩, hc2, ho1.trans ho2⟩
  · go_wp2_with fail
    refine (l1Int v _ [0, 1, 127, 128, 2147483646, 2147483647, 1000000000000] B T _ _ _ (hc1.next ((Below.refl _ _).alloc (Nat.le_refl _) _)) (by exact own_litT w1 [0, 1, 127, 128, 2147483646, 2147483647, 1000000000000] (by simp [maxLen]) (by decide)) hc1.sz.1 (by simp) (by simp)).mono ?_
    rintro e w2 ⟨⟨x, rfl, hx⟩, hc2, ho2⟩
    have hx' : 0 ≤ x ∧ x ≤ 1000000000000 := by simp at hx; omega
    clear hx
    go_wp2
    go_ret
    exact ⟨⟨_, rfl, hx'⟩, hc2, (ho1.alloc _).trans ho2⟩
  · go_wp2_with fail
    refine (CB.out v 1000000 B T _ hc1 (by omega) (by omega)).mono ?_
    rintro e w2 ⟨⟨x, rfl, hx⟩, hc2, ho2⟩
    go_wp2_with fail
    refine (CB.out v 1000000 B T _ hc2 (by omega) (by omega)).mono ?_
    rintro e w3 ⟨⟨y, rfl, hy⟩, hc3, ho3⟩
    have hxy : x * y ≤ 999999 * 999999 := Nat.mul_le_mul (by omega) (by omega)
    have hp0 : 0 ≤ (x : Int) * (y : Int) := by rw [← Int.natCast_mul]; omega
    have hp1 : (x : Int) * (y : Int) ≤ 1000000000000 := by rw [← Int.natCast_mul]; omega
    go_wp2
    go_ret
    exact ⟨⟨_, rfl, by omega, by omega⟩, hc3, (ho1.trans ho2).trans ho3⟩
  · go_wp2_with fail
    refine (CB.out v 20 B T _ hc1 (by omega) (by omega)).mono ?_
    rintro e w2 ⟨⟨x, rfl, hx⟩, hc2, ho2⟩
    go_wp2
    go_ret
    exact ⟨⟨_, rfl, by omega, by omega⟩, hc2, ho1.trans ho2⟩
set_option maxHeartbeats 1600000 in
theorem l1One (v : Value) (B T : Nat) (w : World) (hv : Cur w B T v) :
    Calls Try.prog 44 #[v] w (DrewI (-9223372036854775808) 9223372036854775807 B T v w) := by
  go_enter Try.func44, Try.ntmps44
  go_wp2_with fail
  refine (l1Once v 6 B T _ hv (by omega) (by omega)).mono ?_
  rintro e w1 ⟨⟨b, rfl⟩, hc1, ho1⟩
  cases b
  · go_wp2_with fail
    refine (l1Num v B T _ hc1).mono ?_
    rintro e w2 ⟨⟨x, rfl, hx0, hx1⟩, hc2, ho2⟩
    go_wp2
    go_ret
    exact ⟨⟨_, rfl, by omega, by omega⟩, hc2, ho1.trans ho2⟩
  · go_wp2_with fail
    refine (l1Raw v B T _ hc1).mono ?_
    rintro e w2 ⟨⟨x, rfl, hx⟩, hc2, ho2⟩
    go_wp2
    go_ret
    exact ⟨⟨_, rfl, hx⟩, hc2, ho1.trans ho2⟩
set_option maxHeartbeats 1600000 in
theorem DrawAppendBytes (u : Value) (xs : List Int) (w : World) (hu : Rd .u8 w u xs) (hn : xs.length ≤ 1099511627776) :
    Calls Try.prog 32 #[u] w (Lot2 .u8 5 (fun ys => ys.length ≤ 3) (fun ys => ys.length ≤ 6) w) := by
  have CB := Lib.hid (fun v' n' B' T' w' h' => l1Below v' n' B' T' w' h')
  have CY := Lib.hid (fun v' n' B' T' w' h' => l1Bytes v' n' B' T' w' h')
  obtain ⟨a, c, rfl⟩ := hu.shape
  go_enter Try.func32, Try.ntmps32
  go_wp2_with fail
  refine (l1New _ xs w hu hn).mono ?_
  rintro e w1 ⟨⟨v, rfl, hc⟩, b1⟩
  have s1 := b1.size
  go_wp2_with fail
  refine (CB.out v 3 _ _ _ hc (by omega) (by omega)).mono ?_
  rintro e w2 ⟨⟨n, rfl, hnn⟩, hc2, ho2⟩
  go_wp2_with fail
  refine (CY.out v n _ _ _ hc2 (by omega)).mono ?_
  rintro e w3 ⟨⟨u3, ys, rfl, o3, hy⟩, hc3, ho3⟩
  have hy' : ys.length ≤ 3 := by omega
  clear hy
  go_wp2_with fail
  refine (CB.out v 6 _ _ _ hc3 (by omega) (by omega)).mono ?_
  rintro e w4 ⟨⟨m, rfl, hm⟩, hc4, ho4⟩
  go_wp2_with fail
  refine (CY.out v m _ _ _ hc4 (by omega)).mono ?_
  rintro e w5 ⟨⟨u5, zs, rfl, o5, hz⟩, hc5, ho5⟩
  have hz' : zs.length ≤ 6 := by omega
  clear hz
  have s2 := ho2.size
  have s3 := ho3.size
  have s4 := ho4.size
  have s5 := ho5.size
  have b5 := Only.belowAt b1 (((ho2.trans ho3).trans ho4).trans ho5)
  have o3' := (o3.apart ho4 (Or.inr (by omega))).apart ho5 (Or.inr (by omega))
  go_wp2
  go_ret2
  exact ⟨⟨u3, ys, u5, zs, rfl, o3'.mono (by omega) (by omega), hy', o5.mono (by omega) (Nat.le_refl _), hz'⟩, b5⟩
set_option maxHeartbeats 1600000 in
theorem DrawAppendUvarint (u : Value) (xs : List Int) (w : World) (hu : Rd .u8 w u xs) (hn : xs.length ≤ 1099511627776) :
    Calls Try.prog 36 #[u] w (LotJ (-9223372036854775808) 9223372036854775807 .u8 5 (fun ys => ys.length ≤ 3) w) := by
  obtain ⟨a, c, rfl⟩ := hu.shape
  go_enter Try.func36, Try.ntmps36
  go_wp2_with fail
  refine (l1New _ xs w hu hn).mono ?_
  rintro e w1 ⟨⟨v, rfl, hc⟩, b1⟩
  have s1 := b1.size
  go_wp2_with fail
  refine (l1Below v 3 _ _ _ hc (by omega) (by omega)).mono ?_
  rintro e w2 ⟨⟨n, rfl, hnn⟩, hc2, ho2⟩
  go_wp2_with fail
  refine (l1Bytes v n _ _ _ hc2 (by omega)).mono ?_
  rintro e w3 ⟨⟨u3, ys, rfl, o3, hy⟩, hc3, ho3⟩
  have hy' : ys.length ≤ 3 := by omega
  clear hy
  go_wp2_with fail
  refine (l1One v _ _ _ hc3).mono ?_
  rintro e w4 ⟨⟨x, rfl, hx⟩, hc4, ho4⟩
  have s2 := ho2.size
  have s3 := ho3.size
  have s4 := ho4.size
  have b4 := Only.belowAt b1 ((ho2.trans ho3).trans ho4)
  have o3' := o3.apart ho4 (Or.inr (by omega))
  go_wp2
  go_ret2
  exact ⟨⟨x, u3, ys, rfl, hx, o3'.mono (by omega) (by omega), hy'⟩, b4⟩
set_option maxHeartbeats 1600000 in
theorem DrawReadUvarint (u : Value) (xs : List Int) (w : World) (hu : Rd .u8 w u xs) (hn : xs.length ≤ 1099511627776) :
    Calls Try.prog 37 #[u] w (LotJ (-1) 3 .u8 5 (fun ys => ys.length ≤ 8) w) := by
  have CB := Lib.hid (fun v' n' B' T' w' h' => l1Below v' n' B' T' w' h')
  have CI := Lib.hid (fun v' u' zs' B1 T1 B2 T2 w' h1 h2 => l1Int v' u' zs' B1 T1 B2 T2 w' h1 h2)
  obtain ⟨a, c, rfl⟩ := hu.shape
  go_enter Try.func37, Try.ntmps37
  go_wp2_with fail
  refine (l1New _ xs w hu hn).mono ?_
  rintro e w1 ⟨⟨v, rfl, hc⟩, b1⟩
  have s1 := b1.size
  go_wp2_with fail
  refine (l1Once v 2 _ _ _ hc (by omega) (by omega)).mono ?_
  rintro e w2 ⟨⟨b, rfl⟩, hc2, ho2⟩
  have s2 := ho2.size
  cases b
  · go_wp2_with fail
    refine (CB.out v 8 _ _ _ (hc2.next ((Below.refl _ _).alloc (Nat.le_refl _) _)) (by omega) (by omega)).mono ?_
    rintro e w3 ⟨⟨n, rfl, hnn⟩, hc3, ho3⟩
    have r3 := (own_lit0 (k := .u8) (E := 5) w2 (Nat.le_refl _)).apart ho3 (Or.inr hc2.sz.1)
    have ho3' : Only w.heap.size w1.heap.size w1 w3 := (ho2.alloc _).trans ho3
    have s3 := ho3'.size
    go_wp2
    go_loopw [5, 6] (fun r i wr => ∃ (k : Nat) (ys : List Int), k ≤ 8 ∧ i = .int .i64 k ∧ ys.length + k ≤ 8 ∧ Own .u8 5 wr w1.heap.size wr.heap.size r ys ∧ Cur wr w.heap.size w1.heap.size v ∧ Only w.heap.size w1.heap.size w1 wr) (fun _ i _ => (intOf i).toNat)
    case atStart =>
      exact ⟨n, [], by omega, rfl, by simp; omega, (r3.mono s2 (Nat.le_refl _)).top, hc3, ho3'⟩
    case round =>
      obtain ⟨k, ys, hk, rfl, hy, hr, hc, ho⟩ := hrel
      have hsz := ho.size
      by_cases hlt : 0 < k
      · go_wp2_with fail
        refine (CI.out v _ [128, 255, 0, 1, 127] _ _ _ _ _ (hc.next ((Below.refl _ _).alloc (Nat.le_refl _) _)) (by exact own_litT wr [128, 255, 0, 1, 127] (by simp [maxLen]) (by decide)) hc.sz.1 (by simp) (by simp)).mono ?_
        rintro e w4 ⟨⟨x, rfl, hx⟩, hc4, ho4⟩
        have hx' : 0 ≤ x ∧ x ≤ 255 := by simp at hx; omega
        obtain ⟨hx0, hx1⟩ := hx'
        clear hx
        have ho4' := (ho.alloc (.cells #[.int .i64 128, .int .i64 255, .int .i64 0, .int .i64 1, .int .i64 127] 3)).trans ho4
        have hr4 : Own .u8 5 w4 w1.heap.size _ _ ys := (hr.alloc (.cells #[.int .i64 128, .int .i64 255, .int .i64 0, .int .i64 1, .int .i64 127] 3)).apart ho4 (Or.inr (Nat.le_refl _))
        have s4 := ho4'.size
        go_wp2_with (at_builtin; refine wpList_app _ rfl (.tmp 23) (.tmp 28) 22 rfl w1.heap.size 5 .u8 1 Try.underlying22 info8 (by omega) _ _ ys [x] rfl rfl (hr4.alloc _) (rd_lit1 _ _ (WalkArith.wf_u8 (by omega))) (by simp; omega) (by simp; omega) ?_)
        intro v' w' o' b'
        have b2 : Below w1.heap.size w4 w' := ((Below.refl _ _).alloc (by omega) _).trans b'
        have o2 := ho4'.thenBelow b2 (Nat.le_refl _)
        go_wp2
        go_roundw
        case rel => exact ⟨k - 1, _, by omega, by go_num, by simp; omega, o', hc4.keep b2 (Nat.le_refl _), o2⟩
        case measure => simp [intOf]; omega
      · obtain rfl : k = 0 := by omega
        have hy' : ys.length ≤ 8 := by omega
        clear hlt hy
        go_wp2_with fail
        refine (CB.out v 4 _ _ _ hc (by omega) (by omega)).mono ?_
        rintro e w4 ⟨⟨x, rfl, hx⟩, hc4, ho4⟩
        have o4 := hr.apart ho4 (Or.inr (Nat.le_refl _))
        have s4 := ho4.size
        go_wp2
        go_ret2
        exact ⟨⟨_, _, ys, rfl, ⟨by omega, by omega⟩, o4.mono (by omega) (by omega), hy'⟩, Only.belowAt b1 (ho.trans ho4)⟩
  · go_wp2_with fail
    refine (l1Bytes v 1 _ _ _ hc2 (by omega)).mono ?_
    rintro e w3 ⟨⟨u3, ys, rfl, o3, hy⟩, hc3, ho3⟩
    have hy' : ys.length ≤ 1 := by omega
    clear hy
    go_wp2_with fail
    refine (l1Num v _ _ _ hc3).mono ?_
    rintro e w4 ⟨⟨x, rfl, hx0, hx1⟩, hc4, ho4⟩
    have s3 := ho3.size
    have s4 := ho4.size
    have o4 := o3.apart ho4 (Or.inr (by omega))
    have b4 := Only.belowAt b1 ((ho2.trans ho3).trans ho4)
    have hal := auv_len ys x
    go_wp2_with fail
    refine (spec_AppendUvarint _ _ _ _ o4.rd (by omega) (by omega)).mono ?_
    rintro e w5 ⟨u5, rfl, o5, b5⟩
    have b5' := below_next b4 b5
    have hz : (auv ys x).length ≤ 8 := by omega
    clear hal
    go_wp2_with fail
    go_ret2
    exact ⟨⟨1, u5, _, rfl, ⟨by omega, by omega⟩, o5.mono (by omega) (Nat.le_refl _), hz⟩, b5'⟩
end Go.Proofs.Ytjnpdepgmgdhdaa

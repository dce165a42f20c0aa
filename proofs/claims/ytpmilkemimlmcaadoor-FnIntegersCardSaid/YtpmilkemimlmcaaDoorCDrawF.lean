/- The draws of numbers and of varints. -/
import Derived.Test.YtpmilkemimlmcaaDoorCDrawC
namespace Go.Proofs.YtpmilkemimlmcaaDoor
open Go.RowKit
set_option linter.unusedVariables false

/-- What a Draw of a list and an int leaves. -/
def LotJ (a b : Int) (k : IntKind) (E : TypeId) (P : List Int → Prop) (w : World) (e : Ending) (w' : World) : Prop :=
  (∃ x u ys, e = .returned (.tuple #[u, .int .i64 x]) ∧ (a ≤ x ∧ x ≤ b) ∧ Own k E w' w.heap.size w'.heap.size u ys ∧ P ys) ∧ Below w.heap.size w w'
/-- What a Draw of two lists leaves. -/
def Lot2 (k : IntKind) (E : TypeId) (P Q : List Int → Prop) (w : World) (e : Ending) (w' : World) : Prop :=
  (∃ u ys v zs, e = .returned (.tuple #[u, v]) ∧ Own k E w' w.heap.size w'.heap.size u ys ∧ P ys ∧ Own k E w' w.heap.size w'.heap.size v zs ∧ Q zs) ∧ Below w.heap.size w w'
theorem odd_wf : ∀ x ∈ ([-1, 0, 1, 2, 255, 256, 65535, 2147483647, 2147483648, 4294967295, 4294967296, -2147483648, 9223372036854775807, -9223372036854775808] : List Int), -9223372036854775808 ≤ x ∧ x ≤ 9223372036854775807 := by decide
set_option maxRecDepth 100000 in
set_option maxHeartbeats 1600000 in
theorem l1Odd (v : Value) (B T : Nat) (w : World) (hv : Cur w B T v) :
    Calls Tryd.prog 27 #[v] w (DrewI (-9223372036854775808) 9223372036854775807 B T v w) := by
  go_enter Tryd.func27, Tryd.ntmps27
  go_wp2_with fail
  refine (l1Int v _ [-1, 0, 1, 2, 255, 256, 65535, 2147483647, 2147483648, 4294967295, 4294967296, -2147483648, 9223372036854775807, -9223372036854775808] B T _ _ _ (hv.next ((Below.refl _ _).alloc (Nat.le_refl _) _)) (by exact own_litT w [-1, 0, 1, 2, 255, 256, 65535, 2147483647, 2147483648, 4294967295, 4294967296, -2147483648, 9223372036854775807, -9223372036854775808] (by simp [maxLen]) (by decide)) hv.sz.1 (by simp) (by simp)).mono ?_
  rintro e w1 ⟨⟨x, rfl, hx⟩, hc1, ho1⟩
  have hx' := odd_wf x hx
  clear hx
  go_wp2
  go_ret
  exact ⟨⟨_, rfl, hx'⟩, hc1, ((Only.refl _ _ _).alloc _).trans ho1⟩
set_option maxHeartbeats 1600000 in
theorem l1Raw (v : Value) (B T : Nat) (w : World) (hv : Cur w B T v) :
    Calls Tryd.prog 24 #[v] w (DrewI (-9223372036854775808) 9223372036854775807 B T v w) := by
  go_enter Tryd.func24, Tryd.ntmps24
  go_wp2_with fail
  refine (l1Once v 2 B T _ hv (by omega) (by omega)).mono ?_
  rintro e w1 ⟨⟨b, rfl⟩, hc1, ho1⟩
  cases b
  · go_wp2_with fail
    refine (l1Int v _ [-1, 1000000000000, 1000000000001] B T _ _ _ (hc1.next ((Below.refl _ _).alloc (Nat.le_refl _) _)) (by exact own_litT w1 [-1, 1000000000000, 1000000000001] (by simp [maxLen]) (by decide)) hc1.sz.1 (by simp) (by simp)).mono ?_
    rintro e w2 ⟨⟨x, rfl, hx⟩, hc2, ho2⟩
    have hx' : -9223372036854775808 ≤ x ∧ x ≤ 9223372036854775807 := by simp at hx; omega
    clear hx
    go_wp2
    go_ret
    exact ⟨⟨_, rfl, hx'⟩, hc2, (ho1.alloc _).trans ho2⟩
  · go_wp2_with fail
    refine (l1Odd v B T _ hc1).mono ?_
    rintro e w2 ⟨⟨x, rfl, hx⟩, hc2, ho2⟩
    go_wp2
    go_ret
    exact ⟨⟨_, rfl, hx⟩, hc2, ho1.trans ho2⟩
set_option maxHeartbeats 1600000 in
theorem l1Num (v : Value) (B T : Nat) (w : World) (hv : Cur w B T v) :
    Calls Tryd.prog 18 #[v] w (DrewI 0 1000000000000 B T v w) := by
  have CB := Lib.hid (fun v' n' B' T' w' h' => l1Below v' n' B' T' w' h')
  go_enter Tryd.func18, Tryd.ntmps18
  go_wp2_with fail
  refine (CB.out v 4 B T _ hv (by omega) (by omega)).mono ?_
  rintro e w1 ⟨⟨m, rfl, hm⟩, hc1, ho1⟩
  rcases (show m = 0 ∨ m = 1 ∨ m = 2 ∨ m = 3 by omega) with rfl | rfl | rfl | rfl
  · go_wp2_with fail
    refine (CB.out v 2000 B T _ hc1 (by omega) (by omega)).mono ?_
    rintro e w2 ⟨⟨x, rfl, hx⟩, hc2, ho2⟩
    go_wp2
    go_ret
    exact ⟨⟨_, rfl, by omega, by omega⟩, hc2, ho1.trans ho2⟩
  · go_wp2_with fail
    refine (l1Int v _ [0, 1, 127, 128, 2147483646, 2147483647, 1000000000000] B T _ _ _ (hc1.next ((Below.refl _ _).alloc (Nat.le_refl _) _)) (by exact own_litT w1 [0, 1, 127, 128, 2147483646, 2147483647, 1000000000000] (by simp [maxLen]) (by decide)) hc1.sz.1 (by simp) (by simp)).mono ?_
    rintro e w2 ⟨⟨x, rfl, hx⟩, hc2, ho2⟩
    have hx' : 0 ≤ x ∧ x ≤ 1000000000000 := by simp at hx; omega
    clear hx
    go_wp2
    go_ret
    exact ⟨⟨_, rfl, hx'⟩, hc2, (ho1.alloc _).trans ho2⟩
  · go_wp2_with fail
    refine (CB.out v 1000000 B T _ hc1 (by omega) (by omega)).mono ?_
    rintro e w2 ⟨⟨x, rfl, hx⟩, hc2, ho2⟩
    go_wp2_with fail
    refine (CB.out v 1000000 B T _ hc2 (by omega) (by omega)).mono ?_
    rintro e w3 ⟨⟨y, rfl, hy⟩, hc3, ho3⟩
    have hxy : x * y ≤ 999999 * 999999 := Nat.mul_le_mul (by omega) (by omega)
    have hp0 : 0 ≤ (x : Int) * (y : Int) := by rw [← Int.natCast_mul]; omega
    have hp1 : (x : Int) * (y : Int) ≤ 1000000000000 := by rw [← Int.natCast_mul]; omega
    go_wp2
    go_ret
    exact ⟨⟨_, rfl, by omega, by omega⟩, hc3, (ho1.trans ho2).trans ho3⟩
  · go_wp2_with fail
    refine (CB.out v 20 B T _ hc1 (by omega) (by omega)).mono ?_
    rintro e w2 ⟨⟨x, rfl, hx⟩, hc2, ho2⟩
    go_wp2
    go_ret
    exact ⟨⟨_, rfl, by omega, by omega⟩, hc2, ho1.trans ho2⟩
set_option maxHeartbeats 1600000 in
theorem l1One (v : Value) (B T : Nat) (w : World) (hv : Cur w B T v) :
    Calls Tryd.prog 19 #[v] w (DrewI (-9223372036854775808) 9223372036854775807 B T v w) := by
  go_enter Tryd.func19, Tryd.ntmps19
  go_wp2_with fail
  refine (l1Once v 6 B T _ hv (by omega) (by omega)).mono ?_
  rintro e w1 ⟨⟨b, rfl⟩, hc1, ho1⟩
  cases b
  · go_wp2_with fail
    refine (l1Num v B T _ hc1).mono ?_
    rintro e w2 ⟨⟨x, rfl, hx0, hx1⟩, hc2, ho2⟩
    go_wp2
    go_ret
    exact ⟨⟨_, rfl, by omega, by omega⟩, hc2, ho1.trans ho2⟩
  · go_wp2_with fail
    refine (l1Raw v B T _ hc1).mono ?_
    rintro e w2 ⟨⟨x, rfl, hx⟩, hc2, ho2⟩
    go_wp2
    go_ret
    exact ⟨⟨_, rfl, hx⟩, hc2, ho1.trans ho2⟩
end Go.Proofs.YtpmilkemimlmcaaDoor

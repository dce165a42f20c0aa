/- Draws of lists (weak contracts: a new list of a bounded length, its elements in their range). -/
import Derived.Test.YtgaoiljedfogjaaCDraw
namespace Go.Proofs.Ytgaoiljedfogjaa
open Go.RowKit
set_option linter.unusedVariables false

/-- What a draw of a list leaves: a list in new memory with P, the cursor. -/
def DrewL (k : IntKind) (E : TypeId) (P : List Int → Prop) (B T : Nat) (v : Value) (w : World) (e : Ending) (w' : World) : Prop :=
  (∃ u ys, e = .returned u ∧ Own k E w' w.heap.size w'.heap.size u ys ∧ P ys) ∧ Cur w' B T v ∧ Only B T w w'
/-- What a draw of an int leaves that lies in [a, b]. -/
def DrewI (a b : Int) (B T : Nat) (v : Value) (w : World) (e : Ending) (w' : World) : Prop :=
  (∃ x, e = .returned (.int .i64 x) ∧ a ≤ x ∧ x ≤ b) ∧ Cur w' B T v ∧ Only B T w w'
theorem Only.thenBelow {B T K : Nat} {a b c : World} (h : Only B T a b) (k : Below K b c) (hK : a.heap.size ≤ K) : Only B T a c :=
  ⟨k.os.trans h.os, k.tape.trans h.tape, k.output.trans h.output, Nat.le_trans h.size k.size, fun i hi hn => (k.block i (by omega)).trans (h.block i hi hn)⟩
theorem own_litT {k : IntKind} {E : TypeId} (w : World) (xs : List Int) (hm : xs.length ≤ maxLen) (hw : ∀ n ∈ xs, (Lit.int k n).wf = true) :
    Own k E (w.alloc (.cells (xs.map (Value.int k)).toArray E)) w.heap.size (w.heap.size + 1) (.slice (some ⟨w.heap.size, 0, none⟩) xs.length xs.length) xs := own_lit w xs (Nat.le_refl _) hm hw
set_option maxHeartbeats 1600000 in
theorem l1Bytes (v : Value) (n : Nat) (B T : Nat) (w : World) (hv : Cur w B T v) (hn : n ≤ 1073741824) :
    Calls Try.prog 71 #[v, .int .i64 (n : Int)] w (DrewL .u8 5 (fun ys => ys.length = n) B T v w) := by
  have CB := Lib.hid (fun v' B' T' w' h' => l1Byte v' B' T' w' h')
  have hs := hv.sz.1
  go_enter Try.func71, Try.ntmps71
  go_wp2
  go_loopw [5, 6] (fun r i wr => ∃ (k : Nat) (ys : List Int), k ≤ n ∧ i = .int .i64 k ∧ ys.length = k ∧ Own .u8 5 wr w.heap.size wr.heap.size r ys ∧ Cur wr B T v ∧ Only B T w wr) (fun _ i _ => n - (intOf i).toNat)
  case atStart =>
    exact ⟨0, [], Nat.zero_le _, rfl, rfl, (own_lit0 w (Nat.le_refl _)).top, hv.next ((Below.refl _ _).alloc (Nat.le_refl _) _), (Only.refl _ _ _).alloc _⟩
  case round =>
    obtain ⟨k, ys, hk, rfl, hy, hr, hc, ho⟩ := hrel
    have hsz := ho.size
    by_cases hlt : k < n
    · go_wp2_with fail
      refine (CB.out v B T _ hc).mono ?_
      rintro e w1 ⟨⟨x, rfl, hx⟩, hc1, ho1⟩
      have hr1 := hr.apart ho1 (Or.inr hs)
      have hs1 := ho1.size
      go_wp2_with (at_builtin; refine wpList_app _ rfl (.tmp 13) (.tmp 17) 31 rfl w.heap.size 5 .u8 1 Try.underlying31 info8 (by omega) _ _ ys [(x : Int)] rfl rfl (hr1.alloc _) (rd_lit1 _ _ (WalkArith.wf_u8 (by omega))) (by simp; omega) (by simp; omega) ?_)
      intro v' w' o' b'
      have b2 : Below w.heap.size w1 w' := ((Below.refl _ _).alloc (by omega) _).trans b'
      have o2 := (ho.trans ho1).thenBelow b2 (Nat.le_refl _)
      go_wp2
      go_roundw
      case rel => exact ⟨k + 1, _, by omega, by go_num, by simp [hy], o', hc1.keep b2 hs, o2⟩
      case measure => simp [intOf]; omega
    · obtain rfl : k = n := by omega
      go_wp2
      go_ret
      exact ⟨⟨_, _, rfl, hr, hy⟩, hc, ho⟩
set_option maxHeartbeats 1600000 in
theorem l4Bits (v : Value) (n : Nat) (B T : Nat) (w : World) (hv : Cur w B T v) (hn : n ≤ 1073741824) :
    Calls Try.prog 74 #[v, .int .i64 (n : Int)] w (DrewL .i64 3 (fun ys => ys.length = n) B T v w) := by
  have CB := Lib.hid (fun v' n' B' T' w' h' => l1Below v' n' B' T' w' h')
  have hs := hv.sz.1
  go_enter Try.func74, Try.ntmps74
  go_wp2
  go_loopw [5, 6] (fun r i wr => ∃ (k : Nat) (ys : List Int), k ≤ n ∧ i = .int .i64 k ∧ ys.length = k ∧ Own .i64 3 wr w.heap.size wr.heap.size r ys ∧ Cur wr B T v ∧ Only B T w wr) (fun _ i _ => n - (intOf i).toNat)
  case atStart =>
    exact ⟨0, [], Nat.zero_le _, rfl, rfl, (own_lit0 w (Nat.le_refl _)).top, hv.next ((Below.refl _ _).alloc (Nat.le_refl _) _), (Only.refl _ _ _).alloc _⟩
  case round =>
    obtain ⟨k, ys, hk, rfl, hy, hr, hc, ho⟩ := hrel
    have hsz := ho.size
    by_cases hlt : k < n
    · go_wp2_with fail
      refine (CB.out v 2 B T _ hc (by omega) (by omega)).mono ?_
      rintro e w1 ⟨⟨x, rfl, hx⟩, hc1, ho1⟩
      have hr1 := hr.apart ho1 (Or.inr hs)
      have hs1 := ho1.size
      go_wp2_with (at_builtin; refine wpList_app _ rfl (.tmp 13) (.tmp 16) 22 rfl w.heap.size 3 .i64 8 Try.underlying22 info64 (by omega) _ _ ys [(x : Int)] rfl rfl (hr1.alloc _) (rd_lit1 _ _ (WalkArith.wf_i64 (by omega))) (by simp; omega) (by simp; omega) ?_)
      intro v' w' o' b'
      have b2 : Below w.heap.size w1 w' := ((Below.refl _ _).alloc (by omega) _).trans b'
      have o2 := (ho.trans ho1).thenBelow b2 (Nat.le_refl _)
      go_wp2
      go_roundw
      case rel => exact ⟨k + 1, _, by omega, by go_num, by simp [hy], o', hc1.keep b2 hs, o2⟩
      case measure => simp [intOf]; omega
    · obtain rfl : k = n := by omega
      go_wp2
      go_ret
      exact ⟨⟨_, _, rfl, hr, hy⟩, hc, ho⟩
set_option maxHeartbeats 1600000 in
theorem l4Any (v : Value) (B T : Nat) (w : World) (hv : Cur w B T v) :
    Calls Try.prog 75 #[v] w (DrewL .i64 3 (fun ys => ys.length ≤ 43) B T v w) := by
  have hs := hv.sz.1
  have CI := Lib.hid (fun v' u' zs' B1 T1 B2 T2 w' h1 h2 => l1Int v' u' zs' B1 T1 B2 T2 w' h1 h2)
  have CB := Lib.hid (fun v' n' B' T' w' h' => l1Below v' n' B' T' w' h')
  go_enter Try.func75, Try.ntmps75
  go_wp2_with fail
  refine (CI.out v _ [0, 1, 3, 8, 16, 24, 41] B T _ _ _ (hv.next ((Below.refl _ _).alloc (Nat.le_refl _) _)) (by exact own_litT w [0, 1, 3, 8, 16, 24, 41] (by simp [maxLen]) (by decide)) hs (by simp) (by simp)).mono ?_
  rintro e w1 ⟨⟨x, rfl, hx⟩, hc1, ho1⟩
  have hx' : 0 ≤ x ∧ x ≤ 41 := by simp at hx; omega
  obtain ⟨n, rfl⟩ := Int.eq_ofNat_of_zero_le hx'.1
  have ho1' : Only B T w w1 := ((Only.refl _ _ _).alloc _).trans ho1
  have t1 := ho1'.size
  go_wp2_with fail
  refine (CB.out v 3 B T _ hc1 (by omega) (by omega)).mono ?_
  rintro e w2 ⟨⟨m, rfl, hm⟩, hc2, ho2⟩
  have t2 := ho2.size
  go_wp2_with fail
  refine (l4Bits v (n + m) B T _ hc2 (by omega)).mono ?_
  rintro e w3 ⟨⟨u, ys, rfl, o3, hy⟩, hc3, ho3⟩
  have t3 := ho3.size
  have hyl : ys.length ≤ 43 := by omega
  clear hy
  have ho3' := (ho1'.trans ho2).trans ho3
  have o3' : Own .i64 3 w3 w.heap.size w3.heap.size u ys := o3.mono (by omega) (Nat.le_refl _)
  have hs2 : T ≤ w.heap.size := hs
  rcases o3'.parts with ⟨rfl, a, c, rfl⟩ | ⟨h0, g, c, rfl⟩
  · go_wp2
    go_ret
    exact ⟨⟨_, _, rfl, o3', by simp⟩, hc3, ho3'⟩
  · go_wp2_with fail
    refine (l1Once v 6 B T _ hc3 (by omega) (by omega)).mono ?_
    rintro e w4 ⟨⟨b, rfl⟩, hc4, ho4⟩
    have t4 := ho4.size
    have o4 := o3'.apart ho4 (Or.inr hs2)
    cases b
    · go_wp2
      go_ret
      exact ⟨⟨_, _, rfl, o4.top, hyl⟩, hc4, ho3'.trans ho4⟩
    · go_wp2_with fail
      refine (CB.out v ys.length B T _ hc4 h0 (by omega)).mono ?_
      rintro e w5 ⟨⟨j, rfl, hj⟩, hc5, ho5⟩
      have t5 := ho5.size
      have o5 := o4.apart ho5 (Or.inr hs2)
      have s5 := hc5.sz.1
      go_wp2_with fail
      refine (CI.out v _ [-1, 2, 3] B T _ _ _ (hc5.next ((Below.refl _ _).alloc (Nat.le_refl _) _)) (by exact own_litT w5 [-1, 2, 3] (by simp [maxLen]) (by decide)) s5 (by simp) (by simp)).mono ?_
      rintro e w6 ⟨⟨y, rfl, hyy⟩, hc6, ho6⟩
      have t6 := ho6.size
      have o6 := (o5.alloc (.cells #[.int .i64 (-1), .int .i64 2, .int .i64 3] 3)).apart ho6 (Or.inr hs2)
      have hy' : -1 ≤ y ∧ y ≤ 3 := by simp at hyy; omega
      have ho6' : Only B T w w6 := (((ho3'.trans ho4).trans ho5).alloc _).trans ho6
      have hcell := o6.cell hj
      have hfz := o6.frozen j
      have hst := o6.stored (j := j) (x := y) (WalkArith.wf_i64 (by omega))
      have hsz7 : w6.heap.size = (w6.setCell ⟨g, j, none⟩ (.int .i64 y)).heap.size := by simp [World.setCell]
      go_wp2
      go_ret
      exact ⟨⟨_, _, rfl, hst.1.top, by simp; omega⟩, hc6.keep (hst.2.below (Nat.le_refl _) ho6'.size) hs2, ho6'.thenBelow (hst.2.below (Nat.le_refl _) ho6'.size) (Nat.le_refl _)⟩
end Go.Proofs.Ytgaoiljedfogjaa

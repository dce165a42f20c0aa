/- Draws of lists (weak contracts: a new list of a bounded length, its elements in their range). -/
import Derived.Test.YtjnpdepgmgdhdaaCDraw
namespace Go.Proofs.Ytjnpdepgmgdhdaa
open Go.RowKit
set_option linter.unusedVariables false

/-- What a draw of a list leaves: a list in new memory with P, the cursor. -/
def DrewL (k : IntKind) (E : TypeId) (P : List Int → Prop) (B T : Nat) (v : Value) (w : World) (e : Ending) (w' : World) : Prop :=
  (∃ u ys, e = .returned u ∧ Own k E w' w.heap.size w'.heap.size u ys ∧ P ys) ∧ Cur w' B T v ∧ Only B T w w'
/-- What a draw of an int leaves that lies in [a, b]. -/
def DrewI (a b : Int) (B T : Nat) (v : Value) (w : World) (e : Ending) (w' : World) : Prop :=
  (∃ x, e = .returned (.int .i64 x) ∧ a ≤ x ∧ x ≤ b) ∧ Cur w' B T v ∧ Only B T w w'
theorem Only.thenBelow {B T K : Nat} {a b c : World} (h : Only B T a b) (k : Below K b c) (hK : a.heap.size ≤ K) : Only B T a c :=
  ⟨k.os.trans h.os, k.tape.trans h.tape, k.output.trans h.output, Nat.le_trans h.size k.size, fun i hi hn => (k.block i (by omega)).trans (h.block i hi hn)⟩
theorem own_litT {k : IntKind} {E : TypeId} (w : World) (xs : List Int) (hm : xs.length ≤ maxLen) (hw : ∀ n ∈ xs, (Lit.int k n).wf = true) :
    Own k E (w.alloc (.cells (xs.map (Value.int k)).toArray E)) w.heap.size (w.heap.size + 1) (.slice (some ⟨w.heap.size, 0, none⟩) xs.length xs.length) xs := own_lit w xs (Nat.le_refl _) hm hw
set_option maxHeartbeats 1600000 in
theorem l1Bytes (v : Value) (n : Nat) (B T : Nat) (w : World) (hv : Cur w B T v) (hn : n ≤ 1073741824) :
    Calls Try.prog 42 #[v, .int .i64 (n : Int)] w (DrewL .u8 5 (fun ys => ys.length = n) B T v w) := by
  have CB := Lib.hid (fun v' B' T' w' h' => l1Byte v' B' T' w' h')
  have hs := hv.sz.1
  go_enter Try.func42, Try.ntmps42
  go_wp2
  go_loopw [5, 6] (fun r i wr => ∃ (k : Nat) (ys : List Int), k ≤ n ∧ i = .int .i64 k ∧ ys.length = k ∧ Own .u8 5 wr w.heap.size wr.heap.size r ys ∧ Cur wr B T v ∧ Only B T w wr) (fun _ i _ => n - (intOf i).toNat)
  case atStart =>
    exact ⟨0, [], Nat.zero_le _, rfl, rfl, (own_lit0 w (Nat.le_refl _)).top, hv.next ((Below.refl _ _).alloc (Nat.le_refl _) _), (Only.refl _ _ _).alloc _⟩
  case round =>
    obtain ⟨k, ys, hk, rfl, hy, hr, hc, ho⟩ := hrel
    have hsz := ho.size
    by_cases hlt : k < n
    · go_wp2_with fail
      refine (CB.out v B T _ hc).mono ?_
      rintro e w1 ⟨⟨x, rfl, hx⟩, hc1, ho1⟩
      have hr1 := hr.apart ho1 (Or.inr hs)
      have hs1 := ho1.size
      go_wp2_with (at_builtin; refine wpList_app _ rfl (.tmp 13) (.tmp 17) 22 rfl w.heap.size 5 .u8 1 Try.underlying22 info8 (by omega) _ _ ys [(x : Int)] rfl rfl (hr1.alloc _) (rd_lit1 _ _ (WalkArith.wf_u8 (by omega))) (by simp; omega) (by simp; omega) ?_)
      intro v' w' o' b'
      have b2 : Below w.heap.size w1 w' := ((Below.refl _ _).alloc (by omega) _).trans b'
      have o2 := (ho.trans ho1).thenBelow b2 (Nat.le_refl _)
      go_wp2
      go_roundw
      case rel => exact ⟨k + 1, _, by omega, by go_num, by simp [hy], o', hc1.keep b2 hs, o2⟩
      case measure => simp [intOf]; omega
    · obtain rfl : k = n := by omega
      go_wp2
      go_ret
      exact ⟨⟨_, _, rfl, hr, hy⟩, hc, ho⟩
end Go.Proofs.Ytjnpdepgmgdhdaa

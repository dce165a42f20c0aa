/- The Draw functions (weak contracts). -/
import Derived.Test.YtdgffiaciccimaaCDrawB
namespace Go.Proofs.Ytdgffiaciccimaa
open Go.RowKit
set_option linter.unusedVariables false

/-- What a Draw of a list leaves. -/
def Lot (k : IntKind) (E : TypeId) (P : List Int → Prop) (w : World) (e : Ending) (w' : World) : Prop :=
  (∃ u ys, e = .returned u ∧ Own k E w' w.heap.size w'.heap.size u ys ∧ P ys) ∧ Below w.heap.size w w'
/-- What a Draw of an int and a list leaves. -/
def LotI (a b : Int) (k : IntKind) (E : TypeId) (P : List Int → Prop) (w : World) (e : Ending) (w' : World) : Prop :=
  (∃ x u ys, e = .returned (.tuple #[.int .i64 x, u]) ∧ (a ≤ x ∧ x ≤ b) ∧ Own k E w' w.heap.size w'.heap.size u ys ∧ P ys) ∧ Below w.heap.size w w'
theorem Only.belowAt {T : Nat} {w w1 w2 : World} (hb : Below w.heap.size w w1) (ho : Only w.heap.size T w1 w2) : Below w.heap.size w w2 :=
  hb.trans (ho.below (Nat.le_refl _) hb.size)
set_option maxHeartbeats 1600000 in
theorem DrawEncrypt (u : Value) (xs : List Int) (w : World) (hu : Rd .u8 w u xs) (hn : xs.length ≤ 1099511627776) :
    Calls Try.prog 27 #[u] w (LotI (-1) 2147483648 .u8 5 (fun ys => ys.length ≤ 8) w) := by
  obtain ⟨a, c, rfl⟩ := hu.shape
  go_enter Try.func27, Try.ntmps27
  go_wp2_with fail
  refine (l1New _ xs w hu hn).mono ?_
  rintro e w1 ⟨⟨v, rfl, hc⟩, b1⟩
  have s1 := b1.size
  go_wp2_with fail
  refine (l3Word v _ _ _ hc).mono ?_
  rintro e w2 ⟨⟨x, rfl, hx0, hx1⟩, hc2, ho2⟩
  go_wp2_with fail
  refine (l1Below v 8 _ _ _ hc2 (by omega) (by omega)).mono ?_
  rintro e w3 ⟨⟨n, rfl, hnn⟩, hc3, ho3⟩
  go_wp2_with fail
  refine (l1Bytes v n _ _ _ hc3 (by omega)).mono ?_
  rintro e w4 ⟨⟨u4, ys, rfl, o4, hy⟩, hc4, ho4⟩
  have b4 := Only.belowAt b1 ((ho2.trans ho3).trans ho4)
  have s4 := (b1.size)
  go_wp2
  go_ret2
  exact ⟨⟨x, u4, ys, rfl, ⟨hx0, hx1⟩, o4.mono (by have := ho2.size; have := ho3.size; omega) (Nat.le_refl _), by omega⟩, b4⟩
set_option maxHeartbeats 1600000 in
theorem DrawScramble (u : Value) (xs : List Int) (w : World) (hu : Rd .u8 w u xs) (hn : xs.length ≤ 1099511627776) :
    Calls Try.prog 28 #[u] w (LotI (-1) 128 .i64 3 (fun ys => ys.length ≤ 43) w) := by
  obtain ⟨a, c, rfl⟩ := hu.shape
  go_enter Try.func28, Try.ntmps28
  go_wp2_with fail
  refine (l1New _ xs w hu hn).mono ?_
  rintro e w1 ⟨⟨v, rfl, hc⟩, b1⟩
  have s1 := b1.size
  go_wp2_with fail
  refine (l5State v _ _ _ hc).mono ?_
  rintro e w2 ⟨⟨x, rfl, hx0, hx1⟩, hc2, ho2⟩
  go_wp2_with fail
  refine (l4Any v _ _ _ hc2).mono ?_
  rintro e w4 ⟨⟨u4, ys, rfl, o4, hy⟩, hc4, ho4⟩
  have b4 := Only.belowAt b1 (ho2.trans ho4)
  go_wp2
  go_ret2
  exact ⟨⟨x, u4, ys, rfl, ⟨hx0, hx1⟩, o4.mono (by have := ho2.size; omega) (Nat.le_refl _), hy⟩, b4⟩
set_option maxHeartbeats 1600000 in
theorem DrawCrc16 (u : Value) (xs : List Int) (w : World) (hu : Rd .u8 w u xs) (hn : xs.length ≤ 1099511627776) :
    Calls Try.prog 45 #[u] w (Lot .u8 5 (fun ys => ys.length ≤ 10) w) := by
  obtain ⟨a, c, rfl⟩ := hu.shape
  go_enter Try.func45, Try.ntmps45
  go_wp2_with fail
  refine (l1New _ xs w hu hn).mono ?_
  rintro e w1 ⟨⟨v, rfl, hc⟩, b1⟩
  have s1 := b1.size
  go_wp2_with fail
  refine (l1Below v 10 _ _ _ hc (by omega) (by omega)).mono ?_
  rintro e w3 ⟨⟨n, rfl, hnn⟩, hc3, ho3⟩
  go_wp2_with fail
  refine (l1Bytes v n _ _ _ hc3 (by omega)).mono ?_
  rintro e w4 ⟨⟨u4, ys, rfl, o4, hy⟩, hc4, ho4⟩
  have b4 := Only.belowAt b1 (ho3.trans ho4)
  go_wp2
  go_ret
  exact ⟨⟨u4, ys, rfl, o4.mono (by have := ho3.size; omega) (Nat.le_refl _), by omega⟩, b4⟩
theorem DrawAppendCrc (u : Value) (xs : List Int) (w : World) (hu : Rd .u8 w u xs) (hn : xs.length ≤ 1099511627776) :
    Calls Try.prog 21 #[u] w (Lot .u8 5 (fun ys => ys.length ≤ 10) w) := by
  obtain ⟨a, c, rfl⟩ := hu.shape
  go_enter Try.func21, Try.ntmps21
  go_wp2_with fail
  refine (DrawCrc16 _ xs w hu hn).mono ?_
  rintro e w3 ⟨⟨u3, ys, rfl, o3, hy⟩, b3⟩
  go_wp2
  go_ret
  exact ⟨⟨u3, ys, rfl, o3, hy⟩, b3⟩
set_option maxHeartbeats 1600000 in
theorem DrawKeyedHash (u : Value) (xs : List Int) (w : World) (hu : Rd .u8 w u xs) (hn : xs.length ≤ 1099511627776) :
    Calls Try.prog 33 #[u] w (LotI (-1) 2147483648 .i64 3 (fun ys => ys.length ≤ 5 ∧ ∀ y ∈ ys, -1 ≤ y ∧ y ≤ 2147483648) w) := by
  obtain ⟨a, c, rfl⟩ := hu.shape
  go_enter Try.func33, Try.ntmps33
  go_wp2_with fail
  refine (l1New _ xs w hu hn).mono ?_
  rintro e w1 ⟨⟨v, rfl, hc⟩, b1⟩
  have s1 := b1.size
  go_wp2_with fail
  refine (l3Word v _ _ _ hc).mono ?_
  rintro e w2 ⟨⟨x, rfl, hx0, hx1⟩, hc2, ho2⟩
  go_wp2_with fail
  refine (l3Words v _ _ _ hc2).mono ?_
  rintro e w4 ⟨⟨u4, ys, rfl, o4, hy⟩, hc4, ho4⟩
  have b4 := Only.belowAt b1 (ho2.trans ho4)
  go_wp2
  go_ret2
  exact ⟨⟨x, u4, ys, rfl, ⟨hx0, hx1⟩, o4.mono (by have := ho2.size; omega) (Nat.le_refl _), hy⟩, b4⟩
end Go.Proofs.Ytdgffiaciccimaa

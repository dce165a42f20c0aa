/- The draws of bits. -/
import Derived.Test.YtgaoiljedfogjaaCDrawC
namespace Go.Proofs.Ytgaoiljedfogjaa
open Go.RowKit
set_option linter.unusedVariables false
set_option maxHeartbeats 1600000 in
theorem DrawBytesToBits (u : Value) (xs : List Int) (w : World) (hu : Rd .u8 w u xs) (hn : xs.length ≤ 1099511627776) :
    Calls Try.prog 46 #[u] w (Lot .u8 5 (fun ys => ys.length ≤ 6) w) := by
  obtain ⟨a, c, rfl⟩ := hu.shape
  go_enter Try.func46, Try.ntmps46
  go_wp2_with fail
  refine (l1New _ xs w hu hn).mono ?_
  rintro e w1 ⟨⟨v, rfl, hc⟩, b1⟩
  have s1 := b1.size
  go_wp2_with fail
  refine (l1Below v 6 _ _ _ hc (by omega) (by omega)).mono ?_
  rintro e w3 ⟨⟨n, rfl, hnn⟩, hc3, ho3⟩
  go_wp2_with fail
  refine (l1Bytes v n _ _ _ hc3 (by omega)).mono ?_
  rintro e w4 ⟨⟨u4, ys, rfl, o4, hy⟩, hc4, ho4⟩
  have b4 := Only.belowAt b1 (ho3.trans ho4)
  go_wp2
  go_ret
  exact ⟨⟨u4, ys, rfl, o4.mono (by have := ho3.size; omega) (Nat.le_refl _), by omega⟩, b4⟩
set_option maxHeartbeats 1600000 in
theorem DrawBitsToBytes (u : Value) (xs : List Int) (w : World) (hu : Rd .u8 w u xs) (hn : xs.length ≤ 1099511627776) :
    Calls Try.prog 47 #[u] w (Lot .i64 3 (fun ys => ys.length ≤ 43) w) := by
  obtain ⟨a, c, rfl⟩ := hu.shape
  go_enter Try.func47, Try.ntmps47
  go_wp2_with fail
  refine (l1New _ xs w hu hn).mono ?_
  rintro e w1 ⟨⟨v, rfl, hc⟩, b1⟩
  have s1 := b1.size
  go_wp2_with fail
  refine (l1Once v 2 _ _ _ hc (by omega) (by omega)).mono ?_
  rintro e w2 ⟨⟨b, rfl⟩, hc2, ho2⟩
  cases b
  · go_wp2_with fail
    refine (l4Any v _ _ _ hc2).mono ?_
    rintro e w4 ⟨⟨u4, ys, rfl, o4, hy⟩, hc4, ho4⟩
    have b4 := Only.belowAt b1 (ho2.trans ho4)
    go_wp2
    go_ret
    exact ⟨⟨u4, ys, rfl, o4.mono (by have := ho2.size; omega) (Nat.le_refl _), hy⟩, b4⟩
  · go_wp2_with fail
    refine (l1Below v 4 _ _ _ hc2 (by omega) (by omega)).mono ?_
    rintro e w3 ⟨⟨n, rfl, hnn⟩, hc3, ho3⟩
    have CB := Lib.hid (fun W h => l4Bits v (8 * n) w.heap.size w1.heap.size W h (by omega))
    go_wp2_with fail
    refine (CB.out _ hc3).mono ?_
    rintro e w4 ⟨⟨u4, ys, rfl, o4, hy⟩, hc4, ho4⟩
    have hy' : ys.length ≤ 43 := by omega
    clear hy
    have b4 := Only.belowAt b1 ((ho2.trans ho3).trans ho4)
    go_wp2
    go_ret
    exact ⟨⟨u4, ys, rfl, o4.mono (by have := ho2.size; have := ho3.size; omega) (Nat.le_refl _), hy'⟩, b4⟩
end Go.Proofs.Ytgaoiljedfogjaa

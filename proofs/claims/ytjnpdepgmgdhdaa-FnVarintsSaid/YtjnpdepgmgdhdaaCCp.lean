/- Contracts of copyBytes and copyInts. -/
import Derived.Test.YtjnpdepgmgdhdaaCApp
import Derived.Test.YtjnpdepgmgdhdaaCInfo
import Derived.Test.YtjnpdepgmgdhdaaCLit
namespace Go.Proofs.Ytjnpdepgmgdhdaa
open Go.RowKit
set_option linter.unusedVariables false

theorem impl_copyBytes (u : Value) (xs : List Int) (w : World) (hu : Rd .u8 w u xs) (hn : xs.length ≤ 1073741824) :
    Calls Try.prog 39 #[u] w (Fresh .u8 5 xs w) := by
  obtain ⟨a, c, rfl⟩ := hu.shape
  go_enter Try.func39, Try.ntmps39
  go_wp2_with (at_make; refine wpList_mk _ rfl _ _ 22 rfl w.heap.size 5 .u8 1 Try.underlying22 info8 (by omega) rfl _ _ _ _ xs.length rfl rfl rfl rfl (by omega) (Nat.le_refl _) ?_)
  intro w1 o1 b1 z1
  have r1 := hu.keep b1
  go_wp2_with ((with_reducible show wpList _ _ _ _ _ _); refine wpList_cpy (o := ⟨some 9, _, _, _, _, _⟩) _ rfl (.tmp 7) (.tmp 8) 22 rfl 5 .u8 1 Try.underlying22 info8 _ xs _ rfl rfl o1 r1 rfl ?_)
  intro w2 o2 b2
  clear r1 o1 z1
  go_wp2
  go_ret
  exact ⟨_, rfl, o2.top, b1.trans b2⟩

end Go.Proofs.Ytjnpdepgmgdhdaa

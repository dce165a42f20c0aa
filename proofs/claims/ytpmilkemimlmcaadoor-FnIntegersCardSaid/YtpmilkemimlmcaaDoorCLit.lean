/- Slices that a statement builds of none or two elements. -/
import Derived.Test.YtpmilkemimlmcaaDoorCApp
namespace Go.Proofs.YtpmilkemimlmcaaDoor
open Go.RowKit

theorem rd_lit2 {k : IntKind} {E : TypeId} (w : World) (x y : Int) (hx : (Lit.int k x).wf = true) (hy : (Lit.int k y).wf = true) : Rd k (w.alloc (.cells #[.int k x, .int k y] E)) (.slice (some ⟨w.heap.size, 0, none⟩) 2 2) [x, y] :=
  (own_lit (E := E) w [x, y] (Nat.le_refl _) (by simp [maxLen]) (by intro n hn; simp at hn; rcases hn with rfl | rfl <;> assumption)).rd
theorem own_lit0 {k : IntKind} {E : TypeId} (w : World) {B : Nat} (hB : B ≤ w.heap.size) : Own k E (w.alloc (.cells #[] E)) B (w.heap.size + 1) (.slice (some ⟨w.heap.size, 0, none⟩) 0 0) [] :=
  own_lit w [] hB (by simp) (by simp)
end Go.Proofs.YtpmilkemimlmcaaDoor

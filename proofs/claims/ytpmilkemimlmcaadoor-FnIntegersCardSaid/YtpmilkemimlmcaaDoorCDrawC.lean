/- The Draw functions (weak contracts). -/
import Derived.Test.YtpmilkemimlmcaaDoorCDrawB
namespace Go.Proofs.YtpmilkemimlmcaaDoor
open Go.RowKit
set_option linter.unusedVariables false

/-- What a Draw of a list leaves. -/
def Lot (k : IntKind) (E : TypeId) (P : List Int → Prop) (w : World) (e : Ending) (w' : World) : Prop :=
  (∃ u ys, e = .returned u ∧ Own k E w' w.heap.size w'.heap.size u ys ∧ P ys) ∧ Below w.heap.size w w'
/-- What a Draw of an int and a list leaves. -/
def LotI (a b : Int) (k : IntKind) (E : TypeId) (P : List Int → Prop) (w : World) (e : Ending) (w' : World) : Prop :=
  (∃ x u ys, e = .returned (.tuple #[.int .i64 x, u]) ∧ (a ≤ x ∧ x ≤ b) ∧ Own k E w' w.heap.size w'.heap.size u ys ∧ P ys) ∧ Below w.heap.size w w'
theorem Only.belowAt {T : Nat} {w w1 w2 : World} (hb : Below w.heap.size w w1) (ho : Only w.heap.size T w1 w2) : Below w.heap.size w w2 :=
  hb.trans (ho.below (Nat.le_refl _) hb.size)
end Go.Proofs.YtpmilkemimlmcaaDoor

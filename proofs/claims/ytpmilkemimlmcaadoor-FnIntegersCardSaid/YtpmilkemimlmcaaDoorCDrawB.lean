/- Draws of lists (weak contracts: a new list of a bounded length, its elements in their range). -/
import Derived.Test.YtpmilkemimlmcaaDoorCDraw
namespace Go.Proofs.YtpmilkemimlmcaaDoor
open Go.RowKit
set_option linter.unusedVariables false

/-- What a draw of a list leaves: a list in new memory with P, the cursor. -/
def DrewL (k : IntKind) (E : TypeId) (P : List Int → Prop) (B T : Nat) (v : Value) (w : World) (e : Ending) (w' : World) : Prop :=
  (∃ u ys, e = .returned u ∧ Own k E w' w.heap.size w'.heap.size u ys ∧ P ys) ∧ Cur w' B T v ∧ Only B T w w'
/-- What a draw of an int leaves that lies in [a, b]. -/
def DrewI (a b : Int) (B T : Nat) (v : Value) (w : World) (e : Ending) (w' : World) : Prop :=
  (∃ x, e = .returned (.int .i64 x) ∧ a ≤ x ∧ x ≤ b) ∧ Cur w' B T v ∧ Only B T w w'
theorem Only.thenBelow {B T K : Nat} {a b c : World} (h : Only B T a b) (k : Below K b c) (hK : a.heap.size ≤ K) : Only B T a c :=
  ⟨k.os.trans h.os, k.tape.trans h.tape, k.output.trans h.output, Nat.le_trans h.size k.size, fun i hi hn => (k.block i (by omega)).trans (h.block i hi hn)⟩
theorem own_litT {k : IntKind} {E : TypeId} (w : World) (xs : List Int) (hm : xs.length ≤ maxLen) (hw : ∀ n ∈ xs, (Lit.int k n).wf = true) :
    Own k E (w.alloc (.cells (xs.map (Value.int k)).toArray E)) w.heap.size (w.heap.size + 1) (.slice (some ⟨w.heap.size, 0, none⟩) xs.length xs.length) xs := own_lit w xs (Nat.le_refl _) hm hw
end Go.Proofs.YtpmilkemimlmcaaDoor

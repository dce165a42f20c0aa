/- The contract of the program's FormatInt, by the shelf's contract of the library's Itoa. -/
import Derived.Test.YtpmilkemimlmcaaDoorCShelf
import Derived.Test.YtpmilkemimlmcaaDoorBase
import Derived.Lib.AppendIntMem
namespace Go.Proofs.YtpmilkemimlmcaaDoor
open Go.RowKit
open Go.Lib (itoa)
set_option linter.unusedVariables false

/-- The library's table reads as its initialiser lays it, here and in whatever world goes on from here. -/
def Tab (w : World) : Prop := Lib.TabIs Tryd.prog w tabName .u64 Lib.pow10Tab
theorem Tab.keep {w w' : World} (h : Tab w) (hb : Below w.heap.size w w') : Tab w' := Lib.tabBelow_of_tabIs h w' hb
theorem grown_below (w : World) (k : Nat) (os : Array Obj) : Below w.heap.size w (Sort.grow (w.drewN k) os) := by
  refine ⟨rfl, rfl, rfl, ?_, fun j hj => ?_⟩
  · show w.heap.size ≤ (w.heap ++ os).size
    simp
  · show (w.heap ++ os)[j]? = w.heap[j]?
    exact Array.getElem?_append_left hj

theorem impl_FormatInt (n : Int) (w : World) (h0 : -9223372036854775808 ≤ n) (h1 : n ≤ 9223372036854775807) (ht : Tab w) :
    Calls Tryd.prog 6 #[.int .i64 n] w fun e w' => e = .returned (.string ⟨(itoa n).toArray⟩) ∧ Below w.heap.size w w' := by
  have HC := Lib.hid (Tryd.strconv_Itoa n h0 h1 w ht)
  clear h0 h1
  go_enter Tryd.func6, Tryd.ntmps6
  go_wp2_with fail
  refine (HC.out).mono ?_
  rintro e w1 ⟨rfl, k, os, rfl⟩
  have hb := Lib.hid (grown_below w k os)
  go_wp2_with fail
  go_ret
  exact ⟨rfl, hb.out⟩
end Go.Proofs.YtpmilkemimlmcaaDoor

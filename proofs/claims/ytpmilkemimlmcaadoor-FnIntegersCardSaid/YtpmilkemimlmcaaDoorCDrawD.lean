/- The draws of strings. -/
import Derived.Test.YtpmilkemimlmcaaDoorCDrawC
namespace Go.Proofs.YtpmilkemimlmcaaDoor
open Go.RowKit
set_option linter.unusedVariables false

theorem Only.cell {B T : Nat} {w w' : World} (h : Only B T w w') {p : Addr} (hp : p.block < w.heap.size) (hn : ¬ (B ≤ p.block ∧ p.block < T)) : w'.cell? p = w.cell? p := World.cell?_of_block (w := w) (h.block p.block hp hn)
set_option maxHeartbeats 1600000 in
theorem l1Str (v : Value) (f : Nat → ByteArray) (n g c : Nat) (B T : Nat) (w : World) (hv : Cur w B T v) (hT : T ≤ g) (hg : g < w.heap.size) (hc : ∀ i, i < n → w.cell? ⟨g, i, none⟩ = some (.string (f i))) (h0 : 0 < n) (hn : n ≤ 1000000) :
    Calls Tryd.prog 17 #[v, .slice (some ⟨g, 0, none⟩) n c] w fun e w' => (∃ i, i < n ∧ e = .returned (.string (f i))) ∧ Cur w' B T v ∧ Only B T w w' := by
  have HC := Lib.hid hc
  clear hc
  go_enter Tryd.func17, Tryd.ntmps17
  go_wp2_with fail
  refine (l1Below v n B T _ hv h0 (by omega)).mono ?_
  rintro e w1 ⟨⟨x, rfl, hx⟩, hc, ho⟩
  have g1 : w1.cell? ⟨g, x, none⟩ = some (.string (f x)) := (ho.cell (p := ⟨g, x, none⟩) hg (by simp; omega)).trans (HC.out x hx)
  go_wp2
  go_ret
  exact ⟨⟨x, hx, rfl⟩, hc, ho⟩
end Go.Proofs.YtpmilkemimlmcaaDoor

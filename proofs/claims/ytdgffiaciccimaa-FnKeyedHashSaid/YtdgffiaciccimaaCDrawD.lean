/- The draws of strings. -/
import Derived.Test.YtdgffiaciccimaaCDrawC
namespace Go.Proofs.Ytdgffiaciccimaa
open Go.RowKit
set_option linter.unusedVariables false

theorem Only.cell {B T : Nat} {w w' : World} (h : Only B T w w') {p : Addr} (hp : p.block < w.heap.size) (hn : ¬ (B ≤ p.block ∧ p.block < T)) : w'.cell? p = w.cell? p := World.cell?_of_block (w := w) (h.block p.block hp hn)
set_option maxHeartbeats 1600000 in
theorem l1Str (v : Value) (f : Nat → ByteArray) (n g c : Nat) (B T : Nat) (w : World) (hv : Cur w B T v) (hT : T ≤ g) (hg : g < w.heap.size) (hc : ∀ i, i < n → w.cell? ⟨g, i, none⟩ = some (.string (f i))) (h0 : 0 < n) (hn : n ≤ 1000000) :
    Calls Try.prog 60 #[v, .slice (some ⟨g, 0, none⟩) n c] w fun e w' => (∃ i, i < n ∧ e = .returned (.string (f i))) ∧ Cur w' B T v ∧ Only B T w w' := by
  have HC := Lib.hid hc
  clear hc
  go_enter Try.func60, Try.ntmps60
  go_wp2_with fail
  refine (l1Below v n B T _ hv h0 (by omega)).mono ?_
  rintro e w1 ⟨⟨x, rfl, hx⟩, hc, ho⟩
  have g1 : w1.cell? ⟨g, x, none⟩ = some (.string (f x)) := (ho.cell (p := ⟨g, x, none⟩) hg (by simp; omega)).trans (HC.out x hx)
  go_wp2
  go_ret
  exact ⟨⟨x, hx, rfl⟩, hc, ho⟩
/-- What the Draw of a key and a string leaves. -/
def LotS (a b : Int) (m : Nat) (w : World) (e : Ending) (w' : World) : Prop :=
  (∃ x s, e = .returned (.tuple #[.int .i64 x, .string s]) ∧ (a ≤ x ∧ x ≤ b) ∧ s.size ≤ m) ∧ Below w.heap.size w w'
def derW : Nat → ByteArray
  | 0 => ⟨#[]⟩ | 1 => ⟨#[97]⟩ | 2 => ⟨#[98]⟩ | 3 => ⟨#[97, 98]⟩ | 4 => ⟨#[110, 101, 119, 115]⟩ | _ => ⟨#[120]⟩
theorem derW_size : ∀ i, (derW i).size ≤ 4
  | 0 => by decide | 1 => by decide | 2 => by decide | 3 => by decide | 4 => by decide | n + 5 => by show (⟨#[120]⟩ : ByteArray).size ≤ 4; decide
set_option maxHeartbeats 1600000 in
theorem DrawDeriveFromString (u : Value) (xs : List Int) (w : World) (hu : Rd .u8 w u xs) (hn : xs.length ≤ 1099511627776) :
    Calls Try.prog 37 #[u] w (LotS (-1) 2147483648 4 w) := by
  obtain ⟨a, c, rfl⟩ := hu.shape
  go_enter Try.func37, Try.ntmps37
  go_wp2_with fail
  refine (l1New _ xs w hu hn).mono ?_
  rintro e w1 ⟨⟨v, rfl, hc⟩, b1⟩
  have s1 := b1.size
  go_wp2_with fail
  refine (l3Word v _ _ _ hc).mono ?_
  rintro e w2 ⟨⟨x, rfl, hx0, hx1⟩, hc2, ho2⟩
  have hs := hc2.sz.1
  go_wp2_with fail
  refine (l1Str v derW 6 _ _ _ _ _ (hc2.next ((Below.refl _ _).alloc (Nat.le_refl _) _)) hs (by simp) ?_ (by omega) (by omega)).mono ?_
  · intro i hi
    match i, hi with
    | 0, _ => simp [World.cell?, World.alloc, -World.alloc_eq, derW]
    | 1, _ => simp [World.cell?, World.alloc, -World.alloc_eq, derW]
    | 2, _ => simp [World.cell?, World.alloc, -World.alloc_eq, derW]
    | 3, _ => simp [World.cell?, World.alloc, -World.alloc_eq, derW]
    | 4, _ => simp [World.cell?, World.alloc, -World.alloc_eq, derW]
    | 5, _ => simp [World.cell?, World.alloc, -World.alloc_eq, derW]
  rintro e w4 ⟨⟨i, hi, rfl⟩, hc4, ho4⟩
  have b4 := Only.belowAt b1 ((ho2.alloc _).trans ho4)
  go_wp2
  go_ret2
  exact ⟨⟨x, _, rfl, ⟨hx0, hx1⟩, derW_size i⟩, b4⟩
end Go.Proofs.Ytdgffiaciccimaa

/- Shared lemmas: what it means that a slice value reads as a list of integers, and that a call owns such a slice. No program in sight. -/
import Derived.WalkKit
import Derived.ProofKit
import Derived.OpenShut
import Derived.Below
import Derived.Lib.Hide
namespace Go.Proofs.Ytbjgmcmabhicnaa
open Go.RowKit

/-- The value v is a slice of integers of kind k that reads as xs in the world w. -/
def Rd (k : IntKind) (w : World) (v : Value) (xs : List Int) : Prop :=
  (∀ n ∈ xs, (Lit.int k n).wf = true) ∧
  ((xs = [] ∧ ∃ a c, v = .slice a 0 c ∧ c ≤ maxLen ∧ (a = none → c = 0)) ∨
   (0 < xs.length ∧ ∃ b off c, v = .slice (some ⟨b, off, none⟩) xs.length c ∧ xs.length ≤ c ∧ c ≤ maxLen ∧ ∀ i, i < xs.length → w.cell? ⟨b, off + i, none⟩ = some (.int k (xs.getD i 0))))

theorem Rd.nil (k : IntKind) (w : World) : Rd k w (.slice none 0 0) [] :=
  ⟨by simp, .inl ⟨rfl, none, 0, rfl, Nat.zero_le _, fun _ => rfl⟩⟩

theorem Rd.of_row {k : IntKind} {w : World} {x : Addr} {len cap : Nat} {zs : List Int} (hl : len ≤ cap) (hm : cap ≤ maxLen) (hz : zs.length = cap)
    (hc : ∀ i, i < zs.length → w.cell? (x.add i) = some (.int k (zs.getD i 0))) (hw : ∀ n ∈ zs, (Lit.int k n).wf = true) : Rd k w (.slice (some x) len cap) (zs.take len) := by
  refine ⟨fun n hn => hw n (List.mem_of_mem_take hn), ?_⟩
  have hlen : (zs.take len).length = len := by simp; omega
  rcases Nat.eq_zero_or_pos len with h0 | h0
  · subst h0
    exact .inl ⟨by simp, some x, cap, rfl, hm, fun h => by cases h⟩
  · refine .inr ⟨by omega, ?_⟩
    obtain ⟨b, off, spot⟩ := x
    have h1 := hc 0 (by omega)
    have hs : spot = none := by simpa [Addr.add] using World.cell?_spot h1
    subst hs
    refine ⟨b, off, cap, by rw [hlen], by omega, hm, fun i hi => ?_⟩
    have h2 := hc i (by omega)
    rw [Addr.add_lit] at h2
    rw [h2]
    congr 2
    simp only [List.getD_eq_getElem?_getD]
    rw [List.getElem?_take_of_lt (by omega)]

/-- What the walk sees of the value. -/
theorem Rd.shape {k : IntKind} {w : World} {v : Value} {xs : List Int} (h : Rd k w v xs) : ∃ a c, v = .slice a xs.length c := by
  rcases h.2 with ⟨rfl, a, c, rfl, _⟩ | ⟨_, b, off, c, rfl, _⟩
  · exact ⟨a, c, rfl⟩
  · exact ⟨_, _, rfl⟩

theorem Rd.len_le {k : IntKind} {w : World} {v : Value} {xs : List Int} (h : Rd k w v xs) : xs.length ≤ 9223372036854775807 := by
  rcases h.2 with ⟨rfl, _⟩ | ⟨_, b, off, c, _, h1, h2, _⟩
  · simp
  · unfold maxLen at h2; omega

theorem Rd.wf {k : IntKind} {w : World} {v : Value} {xs : List Int} (h : Rd k w v xs) : ∀ n ∈ xs, (Lit.int k n).wf = true := h.1

/-- w' is w with new blocks, and with writes to blocks of [B, T) alone. -/
structure Only (B T : Nat) (w w' : World) : Prop where
  os : w'.os = w.os
  tape : w'.tape = w.tape
  output : w'.output = w.output
  size : w.heap.size ≤ w'.heap.size
  block : ∀ k, k < w.heap.size → ¬ (B ≤ k ∧ k < T) → w'.heap[k]? = w.heap[k]?

theorem Only.refl (B T : Nat) (w : World) : Only B T w w := ⟨rfl, rfl, rfl, Nat.le_refl _, fun _ _ _ => rfl⟩
theorem Only.trans {B T : Nat} {a b c : World} (h : Only B T a b) (k : Only B T b c) : Only B T a c :=
  ⟨k.os.trans h.os, k.tape.trans h.tape, k.output.trans h.output, Nat.le_trans h.size k.size, fun i hi hn => (k.block i (Nat.lt_of_lt_of_le hi h.size) hn).trans (h.block i hi hn)⟩
theorem Only.below {B T K : Nat} {w w' : World} (h : Only B T w w') (hB : K ≤ B) (hK : K ≤ w.heap.size) : Below K w w' :=
  ⟨h.os, h.tape, h.output, h.size, fun k hk => h.block k (by omega) (by omega)⟩
theorem Only.of_below {B T : Nat} {w w' : World} (h : Below w.heap.size w w') : Only B T w w' :=
  ⟨h.os, h.tape, h.output, h.size, fun k hk _ => h.block k hk⟩
theorem Only.setCell {B T : Nat} (w : World) {p : Addr} (h1 : B ≤ p.block) (h2 : p.block < T) (u : Value) : Only B T w (w.setCell p u) :=
  ⟨rfl, rfl, rfl, by simp [World.setCell], fun k _ hn => Below.heap_setCell _ _ _ _ (by rintro rfl; exact hn ⟨h1, h2⟩)⟩

/-- The value v is a slice that the call made itself: a row in a block of [B, T), which reads as xs. -/
def Own (k : IntKind) (E : TypeId) (w : World) (B T : Nat) (v : Value) (xs : List Int) : Prop :=
  w.ownsRow B E 1 v xs.length (xs.map (Value.int k)) ∧ (∀ g, v.ownBlock = some g → g < T) ∧ ∀ n ∈ xs, (Lit.int k n).wf = true

theorem Own.mk' {k : IntKind} {E : TypeId} {w : World} {B : Nat} {v : Value} {xs : List Int} (h : w.ownsRow B E 1 v xs.length (xs.map (Value.int k))) (hw : ∀ n ∈ xs, (Lit.int k n).wf = true) : Own k E w B w.heap.size v xs :=
  ⟨h, fun g hg => (h.lt g hg).2, hw⟩

theorem Own.rd {k : IntKind} {E : TypeId} {w : World} {B T : Nat} {v : Value} {xs : List Int} (h : Own k E w B T v xs) : Rd k w v xs := by
  obtain ⟨h1, _, hw⟩ := h
  refine ⟨hw, ?_⟩
  rcases h1.2 with ⟨rfl, h0⟩ | ⟨g, cap, cur, rfl, hb, hg, hn, hm, hs, ht⟩
  · exact .inl ⟨List.eq_nil_of_length_eq_zero h0, none, 0, rfl, Nat.zero_le _, fun _ => rfl⟩
  · rcases Nat.eq_zero_or_pos xs.length with h0 | h0
    · exact .inl ⟨List.eq_nil_of_length_eq_zero h0, _, cap, by rw [h0], hm, fun h => by cases h⟩
    · refine .inr ⟨h0, g, 0, cap, rfl, hn, hm, fun i hi => ?_⟩
      have := h1.cells (g := g) rfl i (.int k (xs.getD i 0)) (by simp [hi])
      rwa [Addr.add_lit] at this

theorem Own.keep {k : IntKind} {E : TypeId} {w w' : World} {B T K : Nat} {v : Value} {xs : List Int} (h : Own k E w B T v xs) (hb : Below K w w') (hT : T ≤ K) : Own k E w' B T v xs := by
  refine ⟨⟨h.1.1, ?_⟩, h.2⟩
  rcases h.1.2 with hn | ⟨g, cap, cur, rfl, hbg, hgg, rest⟩
  · exact .inl hn
  · exact .inr ⟨g, cap, cur, rfl, hbg, by rw [hb.block g (Nat.lt_of_lt_of_le (h.2.1 g rfl) hT)]; exact hgg, rest⟩

theorem Own.apart {k : IntKind} {E : TypeId} {w w' : World} {B T B' T' : Nat} {v : Value} {xs : List Int} (h : Own k E w B T v xs) (hb : Only B' T' w w') (hd : T ≤ B' ∨ T' ≤ B) : Own k E w' B T v xs := by
  refine ⟨⟨h.1.1, ?_⟩, h.2⟩
  rcases h.1.2 with hn | ⟨g, cap, cur, rfl, hbg, hgg, rest⟩
  · exact .inl hn
  · have h1 := h.2.1 g rfl
    exact .inr ⟨g, cap, cur, rfl, hbg, by rw [hb.block g (Array.getElem?_eq_some_iff.1 hgg).1 (by omega)]; exact hgg, rest⟩

theorem Own.mono {k : IntKind} {E : TypeId} {w : World} {B B' T T' : Nat} {v : Value} {xs : List Int} (h : Own k E w B T v xs) (hB : B' ≤ B) (hT : T ≤ T') : Own k E w B' T' v xs := by
  refine ⟨⟨h.1.1, ?_⟩, fun g hg => Nat.lt_of_lt_of_le (h.2.1 g hg) hT, h.2.2⟩
  rcases h.1.2 with hn | ⟨g, cap, cur, rfl, hbg, rest⟩
  · exact .inl hn
  · exact .inr ⟨g, cap, cur, rfl, Nat.le_trans hB hbg, rest⟩

theorem Rd.keep {k : IntKind} {w w' : World} {v : Value} {xs : List Int} (h : Rd k w v xs) (hb : Below w.heap.size w w') : Rd k w' v xs := by
  refine ⟨h.1, ?_⟩
  rcases h.2 with hn | ⟨h0, b, off, c, rfl, h1, h2, hc⟩
  · exact .inl hn
  · exact .inr ⟨h0, b, off, c, rfl, h1, h2, fun i hi => by rw [hb.cell (World.block_lt_of_cell? w _ (hc i hi))]; exact hc i hi⟩

/-- A slice that lies below block number K goes on reading as it did while what lies below K is kept. -/
def RdB (k : IntKind) (w : World) (K : Nat) (v : Value) (xs : List Int) : Prop := Rd k w v xs ∧ ∀ g, v.ownBlock = some g → 0 < xs.length → g < K

theorem Rd.b {k : IntKind} {w : World} {v : Value} {xs : List Int} (h : Rd k w v xs) : RdB k w w.heap.size v xs := by
  refine ⟨h, fun g hg h0 => ?_⟩
  rcases h.2 with ⟨rfl, _⟩ | ⟨_, b, off, c, rfl, _, _, hc⟩
  · simp at h0
  · have h1 : b < w.heap.size := World.block_lt_of_cell? w _ (hc 0 h0)
    simp [Value.ownBlock] at hg
    omega

theorem RdB.keep {k : IntKind} {w w' : World} {K : Nat} {v : Value} {xs : List Int} (h : RdB k w K v xs) (hb : Below K w w') : RdB k w' K v xs := by
  refine ⟨⟨h.1.1, ?_⟩, h.2⟩
  rcases h.1.2 with hn | ⟨h0, b, off, c, rfl, h1, h2, hc⟩
  · exact .inl hn
  · exact .inr ⟨h0, b, off, c, rfl, h1, h2, fun i hi => by rw [hb.cell (show b < K from h.2 b rfl h0)]; exact hc i hi⟩

theorem wf_bd {n : Int} (h : (Lit.int .i64 n).wf = true) : -9223372036854775808 ≤ n ∧ n ≤ 9223372036854775807 := by
  simpa [Lit.wf, IntKind.min, IntKind.max, IntKind.bits, IntKind.signed] using h

end Go.Proofs.Ytbjgmcmabhicnaa

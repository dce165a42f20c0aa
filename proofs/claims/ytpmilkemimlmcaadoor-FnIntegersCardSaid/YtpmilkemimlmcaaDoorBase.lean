/- Shared lemmas: what it means that a slice value reads as a list of integers, and that a call owns such a slice. No program in sight. -/
import Derived.WalkKit
import Derived.ProofKit
import Derived.OpenShut
import Derived.Below
import Derived.Lib.Hide
import Derived.Handy
namespace Go.Proofs.YtpmilkemimlmcaaDoor
open Go.RowKit

/-- The value v is a slice of integers of kind k that reads as xs in the world w. -/
def Rd (k : IntKind) (w : World) (v : Value) (xs : List Int) : Prop :=
  (∀ n ∈ xs, (Lit.int k n).wf = true) ∧
  ((xs = [] ∧ ∃ a c, v = .slice a 0 c ∧ c ≤ maxLen ∧ (a = none → c = 0)) ∨
   (0 < xs.length ∧ ∃ b off c, v = .slice (some ⟨b, off, none⟩) xs.length c ∧ xs.length ≤ c ∧ c ≤ maxLen ∧ ∀ i, i < xs.length → w.cell? ⟨b, off + i, none⟩ = some (.int k (xs.getD i 0))))

theorem Rd.nil (k : IntKind) (w : World) : Rd k w (.slice none 0 0) [] :=
  ⟨by simp, .inl ⟨rfl, none, 0, rfl, Nat.zero_le _, fun _ => rfl⟩⟩

theorem Rd.of_row {k : IntKind} {w : World} {x : Addr} {len cap : Nat} {zs : List Int} (hl : len ≤ cap) (hm : cap ≤ maxLen) (hz : zs.length = cap)
    (hc : ∀ i, i < zs.length → w.cell? (x.add i) = some (.int k (zs.getD i 0))) (hw : ∀ n ∈ zs, (Lit.int k n).wf = true) : Rd k w (.slice (some x) len cap) (zs.take len) := by
  refine ⟨fun n hn => hw n (List.mem_of_mem_take hn), ?_⟩
  have hlen : (zs.take len).length = len := by simp; omega
  rcases Nat.eq_zero_or_pos len with h0 | h0
  · subst h0
    exact .inl ⟨by simp, some x, cap, rfl, hm, fun h => by cases h⟩
  · refine .inr ⟨by omega, ?_⟩
    obtain ⟨b, off, spot⟩ := x
    have h1 := hc 0 (by omega)
    have hs : spot = none := by simpa [Addr.add] using World.cell?_spot h1
    subst hs
    refine ⟨b, off, cap, by rw [hlen], by omega, hm, fun i hi => ?_⟩
    have h2 := hc i (by omega)
    rw [Addr.add_lit] at h2
    rw [h2]
    congr 2
    simp only [List.getD_eq_getElem?_getD]
    rw [List.getElem?_take_of_lt (by omega)]

/-- What the walk sees of the value. -/
theorem Rd.shape {k : IntKind} {w : World} {v : Value} {xs : List Int} (h : Rd k w v xs) : ∃ a c, v = .slice a xs.length c := by
  rcases h.2 with ⟨rfl, a, c, rfl, _⟩ | ⟨_, b, off, c, rfl, _⟩
  · exact ⟨a, c, rfl⟩
  · exact ⟨_, _, rfl⟩

theorem Rd.len_le {k : IntKind} {w : World} {v : Value} {xs : List Int} (h : Rd k w v xs) : xs.length ≤ 9223372036854775807 := by
  rcases h.2 with ⟨rfl, _⟩ | ⟨_, b, off, c, _, h1, h2, _⟩
  · simp
  · unfold maxLen at h2; omega

theorem Rd.wf {k : IntKind} {w : World} {v : Value} {xs : List Int} (h : Rd k w v xs) : ∀ n ∈ xs, (Lit.int k n).wf = true := h.1

/-- w' is w with new blocks, and with writes to blocks of [B, T) alone. -/
structure Only (B T : Nat) (w w' : World) : Prop where
  os : w'.os = w.os
  tape : w'.tape = w.tape
  output : w'.output = w.output
  size : w.heap.size ≤ w'.heap.size
  block : ∀ k, k < w.heap.size → ¬ (B ≤ k ∧ k < T) → w'.heap[k]? = w.heap[k]?

theorem Only.refl (B T : Nat) (w : World) : Only B T w w := ⟨rfl, rfl, rfl, Nat.le_refl _, fun _ _ _ => rfl⟩
theorem Only.trans {B T : Nat} {a b c : World} (h : Only B T a b) (k : Only B T b c) : Only B T a c :=
  ⟨k.os.trans h.os, k.tape.trans h.tape, k.output.trans h.output, Nat.le_trans h.size k.size, fun i hi hn => (k.block i (Nat.lt_of_lt_of_le hi h.size) hn).trans (h.block i hi hn)⟩
theorem Only.below {B T K : Nat} {w w' : World} (h : Only B T w w') (hB : K ≤ B) (hK : K ≤ w.heap.size) : Below K w w' :=
  ⟨h.os, h.tape, h.output, h.size, fun k hk => h.block k (by omega) (by omega)⟩
theorem Only.of_below {B T : Nat} {w w' : World} (h : Below w.heap.size w w') : Only B T w w' :=
  ⟨h.os, h.tape, h.output, h.size, fun k hk _ => h.block k hk⟩
theorem Only.setCell {B T : Nat} (w : World) {p : Addr} (h1 : B ≤ p.block) (h2 : p.block < T) (u : Value) : Only B T w (w.setCell p u) :=
  ⟨rfl, rfl, rfl, by simp [World.setCell], fun k _ hn => Below.heap_setCell _ _ _ _ (by rintro rfl; exact hn ⟨h1, h2⟩)⟩

/-- The value v is a slice that the call made itself: a row in a block of [B, T), which reads as xs. -/
def Own (k : IntKind) (E : TypeId) (w : World) (B T : Nat) (v : Value) (xs : List Int) : Prop :=
  w.ownsRow B E 1 v xs.length (xs.map (Value.int k)) ∧ (∀ g, v.ownBlock = some g → g < T) ∧ ∀ n ∈ xs, (Lit.int k n).wf = true

theorem Own.mk' {k : IntKind} {E : TypeId} {w : World} {B : Nat} {v : Value} {xs : List Int} (h : w.ownsRow B E 1 v xs.length (xs.map (Value.int k))) (hw : ∀ n ∈ xs, (Lit.int k n).wf = true) : Own k E w B w.heap.size v xs :=
  ⟨h, fun g hg => (h.lt g hg).2, hw⟩

theorem Own.rd {k : IntKind} {E : TypeId} {w : World} {B T : Nat} {v : Value} {xs : List Int} (h : Own k E w B T v xs) : Rd k w v xs := by
  obtain ⟨h1, _, hw⟩ := h
  refine ⟨hw, ?_⟩
  rcases h1.2 with ⟨rfl, h0⟩ | ⟨g, cap, cur, rfl, hb, hg, hn, hm, hs, ht⟩
  · exact .inl ⟨List.eq_nil_of_length_eq_zero h0, none, 0, rfl, Nat.zero_le _, fun _ => rfl⟩
  · rcases Nat.eq_zero_or_pos xs.length with h0 | h0
    · exact .inl ⟨List.eq_nil_of_length_eq_zero h0, _, cap, by rw [h0], hm, fun h => by cases h⟩
    · refine .inr ⟨h0, g, 0, cap, rfl, hn, hm, fun i hi => ?_⟩
      have := h1.cells (g := g) rfl i (.int k (xs.getD i 0)) (by simp [hi])
      rwa [Addr.add_lit] at this

theorem Own.keep {k : IntKind} {E : TypeId} {w w' : World} {B T K : Nat} {v : Value} {xs : List Int} (h : Own k E w B T v xs) (hb : Below K w w') (hT : T ≤ K) : Own k E w' B T v xs := by
  refine ⟨⟨h.1.1, ?_⟩, h.2⟩
  rcases h.1.2 with hn | ⟨g, cap, cur, rfl, hbg, hgg, rest⟩
  · exact .inl hn
  · exact .inr ⟨g, cap, cur, rfl, hbg, by rw [hb.block g (Nat.lt_of_lt_of_le (h.2.1 g rfl) hT)]; exact hgg, rest⟩

theorem Own.apart {k : IntKind} {E : TypeId} {w w' : World} {B T B' T' : Nat} {v : Value} {xs : List Int} (h : Own k E w B T v xs) (hb : Only B' T' w w') (hd : T ≤ B' ∨ T' ≤ B) : Own k E w' B T v xs := by
  refine ⟨⟨h.1.1, ?_⟩, h.2⟩
  rcases h.1.2 with hn | ⟨g, cap, cur, rfl, hbg, hgg, rest⟩
  · exact .inl hn
  · have h1 := h.2.1 g rfl
    exact .inr ⟨g, cap, cur, rfl, hbg, by rw [hb.block g (Array.getElem?_eq_some_iff.1 hgg).1 (by omega)]; exact hgg, rest⟩

theorem Own.mono {k : IntKind} {E : TypeId} {w : World} {B B' T T' : Nat} {v : Value} {xs : List Int} (h : Own k E w B T v xs) (hB : B' ≤ B) (hT : T ≤ T') : Own k E w B' T' v xs := by
  refine ⟨⟨h.1.1, ?_⟩, fun g hg => Nat.lt_of_lt_of_le (h.2.1 g hg) hT, h.2.2⟩
  rcases h.1.2 with hn | ⟨g, cap, cur, rfl, hbg, rest⟩
  · exact .inl hn
  · exact .inr ⟨g, cap, cur, rfl, Nat.le_trans hB hbg, rest⟩

theorem Rd.keep {k : IntKind} {w w' : World} {v : Value} {xs : List Int} (h : Rd k w v xs) (hb : Below w.heap.size w w') : Rd k w' v xs := by
  refine ⟨h.1, ?_⟩
  rcases h.2 with hn | ⟨h0, b, off, c, rfl, h1, h2, hc⟩
  · exact .inl hn
  · exact .inr ⟨h0, b, off, c, rfl, h1, h2, fun i hi => by rw [hb.cell (World.block_lt_of_cell? w _ (hc i hi))]; exact hc i hi⟩

theorem Own.top {k : IntKind} {E : TypeId} {w : World} {B T : Nat} {v : Value} {xs : List Int} (h : Own k E w B T v xs) : Own k E w B w.heap.size v xs :=
  ⟨h.1, fun g hg => (h.1.lt g hg).2, h.2.2⟩
theorem Own.of_row {k : IntKind} {E : TypeId} {w : World} {B n : Nat} {v : Value} {xs : List Int} {vs : List Value} (h : w.ownsRow B E 1 v n vs) (hn : xs.length = n) (hv : xs.map (Value.int k) = vs) (hw : ∀ n ∈ xs, (Lit.int k n).wf = true) : Own k E w B w.heap.size v xs := by
  subst hn; subst hv
  exact Own.mk' h hw
theorem Own.len {k : IntKind} {E : TypeId} {w : World} {B T n c : Nat} {a : Option Addr} {xs : List Int} (h : Own k E w B T (.slice a n c) xs) : n = xs.length := by
  rcases h.1.2 with ⟨h1, h2⟩ | ⟨g, cap, cur, h1, _⟩
  · simp at h1; omega
  · simp at h1; omega
theorem Own.cell {k : IntKind} {E : TypeId} {w : World} {B T g n c j : Nat} {xs : List Int} (h : Own k E w B T (.slice (some ⟨g, 0, none⟩) n c) xs) (hj : j < xs.length) : w.cell? ⟨g, j, none⟩ = some (.int k (xs.getD j 0)) := by
  have h1 := h.1
  rw [h.len] at h1
  rw [h1.cellAt j (by omega)]
  simp [hj]
theorem Own.frozen {k : IntKind} {E : TypeId} {w : World} {B T g n c : Nat} {xs : List Int} (h : Own k E w B T (.slice (some ⟨g, 0, none⟩) n c) xs) (j : Nat) : w.frozen? ⟨g, j, none⟩ = false := by
  have h1 := h.1
  rw [h.len] at h1
  exact h1.frozenAt j
theorem Own.blk {k : IntKind} {E : TypeId} {w : World} {B T g n c : Nat} {xs : List Int} (h : Own k E w B T (.slice (some ⟨g, 0, none⟩) n c) xs) : B ≤ g ∧ g < T ∧ g < w.heap.size :=
  ⟨(h.1.lt g rfl).1, h.2.1 g rfl, (h.1.lt g rfl).2⟩
theorem Own.stored {k : IntKind} {E : TypeId} {w : World} {B T g n c j : Nat} {xs : List Int} {x : Int} (h : Own k E w B T (.slice (some ⟨g, 0, none⟩) n c) xs) (hx : (Lit.int k x).wf = true) :
    Own k E (w.setCell ⟨g, j, none⟩ (.int k x)) B T (.slice (some ⟨g, 0, none⟩) n c) (xs.set j x) ∧ Only B T w (w.setCell ⟨g, j, none⟩ (.int k x)) := by
  have h1 := h.1
  rw [h.len] at h1
  have h2 := (h1.stored j (.int k x)).1
  have hb := h.blk
  refine ⟨⟨?_, h.2.1, ?_⟩, Only.setCell _ (p := ⟨g, j, none⟩) hb.1 hb.2.1 _⟩
  · rw [h.len, List.length_set, List.map_set]
    exact h2
  · intro y hy
    rcases List.mem_or_eq_of_mem_set hy with hy | rfl
    · exact h.2.2 y hy
    · exact hx
theorem Own.drew {k : IntKind} {E : TypeId} {w : World} {B T : Nat} {v : Value} {xs : List Int} (h : Own k E w B T v xs) : Own k E w.drew B T v xs := h
theorem Own.alloc {k : IntKind} {E : TypeId} {w : World} {B T : Nat} {v : Value} {xs : List Int} (h : Own k E w B T v xs) (o : Obj) : Own k E (w.alloc o) B T v xs := ⟨h.1.alloc o, h.2⟩

theorem below_next {w w1 w2 : World} (h : Below w.heap.size w w1) (k : Below w1.heap.size w1 w2) : Below w.heap.size w w2 := h.trans (k.mono h.size)

/-- What a call leaves that makes a slice: a slice in new memory that reads as xs; all that was there is as it was. -/
def Fresh (k : IntKind) (E : TypeId) (xs : List Int) (w : World) (e : Ending) (w' : World) : Prop :=
  ∃ v, e = .returned v ∧ Own k E w' w.heap.size w'.heap.size v xs ∧ Below w.heap.size w w'

/-- The same where scalars are returned beside the slice. -/
def FreshT (k : IntKind) (E : TypeId) (xs : List Int) (rest : List Value) (w : World) (e : Ending) (w' : World) : Prop :=
  ∃ v, e = .returned (.tuple (v :: rest).toArray) ∧ Own k E w' w.heap.size w'.heap.size v xs ∧ Below w.heap.size w w'

/-- A slice that is filled from its beginning on. -/
theorem fill_set {xs : List Int} {n k : Nat} {x : Int} (hn : xs.length = n) (hk : k < n) (hx : xs.getD k 0 = x) :
    (xs.take k ++ List.replicate (n - k) 0).set k x = xs.take (k + 1) ++ List.replicate (n - (k + 1)) 0 := by
  have hl : (xs.take k).length = k := by simp; omega
  rw [List.set_append_right _ _ (by omega), hl, Nat.sub_self, show n - k = (n - (k + 1)) + 1 by omega, List.replicate_succ, List.set_cons_zero,
    List.take_succ_eq_append_getElem (by omega), List.append_assoc]
  simp only [List.singleton_append, List.append_cancel_left_eq, List.cons.injEq, and_true]
  rw [← hx, List.getD_eq_getElem?_getD, List.getElem?_eq_getElem (by omega)]
  rfl
theorem fill_len {xs : List Int} {n k : Nat} (hn : xs.length = n) (hk : k ≤ n) : (xs.take k ++ List.replicate (n - k) (0 : Int)).length = n := by
  simp; omega
theorem fill_wf {kd : IntKind} {xs : List Int} (h : ∀ n ∈ xs, (Lit.int kd n).wf = true) (h0 : (Lit.int kd 0).wf = true) (n k : Nat) : ∀ y ∈ xs.take k ++ List.replicate (n - k) 0, (Lit.int kd y).wf = true := by
  intro y hy
  rcases List.mem_append.1 hy with hy | hy
  · exact h y (List.mem_of_mem_take hy)
  · rw [(List.mem_replicate.1 hy).2]; exact h0
theorem made_map (kd : IntKind) (n : Nat) : (madeCells #[Value.int kd 0] n).toList = (List.replicate n (0 : Int)).map (Value.int kd) := by
  rw [toList_madeCells_one]
  simp

theorem Own.parts {k : IntKind} {E : TypeId} {w : World} {B T : Nat} {v : Value} {xs : List Int} (h : Own k E w B T v xs) : (xs = [] ∧ ∃ a c, v = .slice a 0 c) ∨ (0 < xs.length ∧ ∃ g c, v = .slice (some ⟨g, 0, none⟩) xs.length c) := by
  rcases h.1.2 with ⟨rfl, h0⟩ | ⟨g, cap, cur, rfl, _⟩
  · exact .inl ⟨List.eq_nil_of_length_eq_zero h0, none, 0, rfl⟩
  · rcases Nat.eq_zero_or_pos xs.length with h0 | h0
    · exact .inl ⟨List.eq_nil_of_length_eq_zero h0, _, _, by rw [h0]⟩
    · exact .inr ⟨h0, g, cap, rfl⟩

/-- The marks that the laws lay: k, k + 1, .., each brought into its kind by f. -/
def marks (f : Int → Int) (k : Int) (n : Nat) : List Int := (List.range n).map fun i : Nat => f (k + (i : Int))
theorem marks_len (f : Int → Int) (k : Int) (n : Nat) : (marks f k n).length = n := by simp [marks]
theorem marks_getD (f : Int → Int) (k : Int) {n j : Nat} (h : j < n) : (marks f k n).getD j 0 = f (k + (j : Int)) := by simp [marks, h]
theorem marks_set {f : Int → Int} {k : Int} {xs : List Int} {j : Nat} (h : j < xs.length) : (marks f k j ++ xs.drop j).set j (f (k + (j : Int))) = marks f k (j + 1) ++ xs.drop (j + 1) := by
  rw [List.set_append_right _ _ (by rw [marks_len]; omega), marks_len, Nat.sub_self, List.drop_eq_getElem_cons h, List.set_cons_zero]
  simp [marks, List.range_succ]
theorem marks_mid_len {f : Int → Int} {k : Int} {xs : List Int} {j : Nat} (h : j ≤ xs.length) : (marks f k j ++ xs.drop j).length = xs.length := by
  simp [marks_len]; omega

/-- A slice that lies below block number K goes on reading as it did while what lies below K is kept. -/
def RdB (k : IntKind) (w : World) (K : Nat) (v : Value) (xs : List Int) : Prop := Rd k w v xs ∧ ∀ g, v.ownBlock = some g → 0 < xs.length → g < K

theorem Rd.b {k : IntKind} {w : World} {v : Value} {xs : List Int} (h : Rd k w v xs) : RdB k w w.heap.size v xs := by
  refine ⟨h, fun g hg h0 => ?_⟩
  rcases h.2 with ⟨rfl, _⟩ | ⟨_, b, off, c, rfl, _, _, hc⟩
  · simp at h0
  · have h1 : b < w.heap.size := World.block_lt_of_cell? w _ (hc 0 h0)
    simp [Value.ownBlock] at hg
    omega

theorem RdB.keep {k : IntKind} {w w' : World} {K : Nat} {v : Value} {xs : List Int} (h : RdB k w K v xs) (hb : Below K w w') : RdB k w' K v xs := by
  refine ⟨⟨h.1.1, ?_⟩, h.2⟩
  rcases h.1.2 with hn | ⟨h0, b, off, c, rfl, h1, h2, hc⟩
  · exact .inl hn
  · exact .inr ⟨h0, b, off, c, rfl, h1, h2, fun i hi => by rw [hb.cell (show b < K from h.2 b rfl h0)]; exact hc i hi⟩

/-- One element in the middle of a call: its cell, under a name of its own. -/
theorem Rd.elem {k : IntKind} {w wr : World} {a : Option Addr} {n c : Nat} {xs : List Int} {j : Nat} (h : Rd k w (.slice a n c) xs) (hb : Below w.heap.size w wr) (hj : j < xs.length) :
    ∃ b off x, a = some ⟨b, off, none⟩ ∧ b < w.heap.size ∧ Hid (xs.getD j 0 = x) ∧ wr.cell? ⟨b, off + j, none⟩ = some (.int k x) ∧ (Lit.int k x).wf = true := by
  rcases h.2 with ⟨rfl, _⟩ | ⟨h0, b, off, c', hv, h1, h2, hc⟩
  · simp at hj
  · obtain ⟨rfl, -, -⟩ : a = some ⟨b, off, none⟩ ∧ n = xs.length ∧ c = c' := by simpa using hv
    have hlt : b < w.heap.size := World.block_lt_of_cell? w _ (hc 0 h0)
    refine ⟨b, off, _, rfl, hlt, Lib.hid rfl, (hb.cell hlt).trans (hc j hj), h.1 _ ?_⟩
    rw [List.getD_eq_getElem?_getD, List.getElem?_eq_getElem hj]
    exact List.getElem_mem hj

theorem Rd.elem8 {w wr : World} {b off : Nat} {n c : Nat} {xs : List Int} {j : Nat} (h : Rd .u8 w (.slice (some ⟨b, off, none⟩) n c) xs) (hb : Below w.heap.size w wr) (hj : j < xs.length) :
    ∃ x, b < w.heap.size ∧ Hid (xs.getD j 0 = x) ∧ wr.cell? ⟨b, off + j, none⟩ = some (.int .u8 x) ∧ 0 ≤ x ∧ x ≤ 255 := by
  obtain ⟨b1, off1, x, h1, h2, h3, h4, h5⟩ := h.elem hb hj
  obtain ⟨rfl, rfl⟩ : b = b1 ∧ off = off1 := by simpa using h1
  exact ⟨x, h2, h3, h4, bounds_u8 h5⟩

theorem Rd.elem64 {w wr : World} {b off : Nat} {n c : Nat} {xs : List Int} {j : Nat} (h : Rd .i64 w (.slice (some ⟨b, off, none⟩) n c) xs) (hb : Below w.heap.size w wr) (hj : j < xs.length) :
    ∃ x, b < w.heap.size ∧ Hid (xs.getD j 0 = x) ∧ wr.cell? ⟨b, off + j, none⟩ = some (.int .i64 x) ∧ -9223372036854775808 ≤ x ∧ x ≤ 9223372036854775807 := by
  obtain ⟨b1, off1, x, h1, h2, h3, h4, h5⟩ := h.elem hb hj
  obtain ⟨rfl, rfl⟩ : b = b1 ∧ off = off1 := by simpa using h1
  exact ⟨x, h2, h3, h4, bounds_i64 h5⟩

/-- The two shapes that the walk parts on. -/
theorem Rd.parts {k : IntKind} {w : World} {v : Value} {xs : List Int} (h : Rd k w v xs) : (xs = [] ∧ ∃ a c, v = .slice a 0 c) ∨ (0 < xs.length ∧ ∃ b off c, v = .slice (some ⟨b, off, none⟩) xs.length c) := by
  rcases h.2 with ⟨rfl, a, c, rfl, _⟩ | ⟨h0, b, off, c, rfl, _⟩
  · exact .inl ⟨rfl, a, c, rfl⟩
  · exact .inr ⟨h0, b, off, c, rfl⟩

theorem take_getD {xs : List Int} {k : Nat} (h : k < xs.length) : xs.take (k + 1) = xs.take k ++ [xs.getD k 0] := by
  rw [List.take_succ_eq_append_getElem h]
  simp [h]
theorem foldl_take {α : Type} {f : α → Int → α} {a : α} {xs : List Int} {k : Nat} {x : Int} (h : k < xs.length) (hx : xs.getD k 0 = x) : (xs.take (k + 1)).foldl f a = f ((xs.take k).foldl f a) x := by
  rw [take_getD h, List.foldl_append, hx]; rfl
theorem take_all {xs : List Int} {k : Nat} (h : ¬ k < xs.length) : xs.take k = xs := List.take_of_length_le (by omega)
theorem mem_getD {xs : List Int} {k : Nat} {x : Int} (h : k < xs.length) (hx : xs.getD k 0 = x) : x ∈ xs := by
  rw [← hx, List.getD_eq_getElem?_getD, List.getElem?_eq_getElem h]
  exact List.getElem_mem h
theorem ret_int {k : IntKind} {a b : Int} (h : a = b) : Ending.returned (.int k a) = .returned (.int k b) := by rw [h]
theorem ret_bool {a b : Bool} (h : a = b) : Ending.returned (.bool a) = .returned (.bool b) := by rw [h]

theorem wf_bd {n : Int} (h : (Lit.int .i64 n).wf = true) : -9223372036854775808 ≤ n ∧ n ≤ 9223372036854775807 := by
  simpa [Lit.wf, IntKind.min, IntKind.max, IntKind.bits, IntKind.signed] using h

end Go.Proofs.YtpmilkemimlmcaaDoor

/- append to a slice of the call's own, from any slice of integers: the walk's law in the words of Own and Rd. No program in sight. -/
import Derived.Test.YtgeodanhjglkhaaBase
import Derived.Laws.AppendOwnNone
namespace Go.Proofs.Ytgeodanhjglkhaa
open Go.RowKit
set_option linter.unusedVariables false

theorem own_lit {k : IntKind} {E : TypeId} (w : World) {B : Nat} (xs : List Int) (hB : B ≤ w.heap.size) (hm : xs.length ≤ maxLen) (hw : ∀ n ∈ xs, (Lit.int k n).wf = true) :
    Own k E (w.alloc (.cells (xs.map (Value.int k)).toArray E)) B (w.heap.size + 1) (.slice (some ⟨w.heap.size, 0, none⟩) xs.length xs.length) xs := by
  have h := World.ownsRow_lit (base := B) (e := E) (size := 1) w (xs.map (Value.int k)).toArray xs.length hB hm (by simp)
  exact ⟨by simpa using h, fun g hg => by simp [Value.ownBlock] at hg; omega, hw⟩

theorem own_lit1 {k : IntKind} {E : TypeId} (w : World) {B : Nat} (x : Int) (hB : B ≤ w.heap.size) (hw : (Lit.int k x).wf = true) :
    Own k E (w.alloc (.cells #[.int k x] E)) B (w.heap.size + 1) (.slice (some ⟨w.heap.size, 0, none⟩) 1 1) [x] :=
  own_lit w [x] hB (by simp [maxLen]) (by simpa using hw)

theorem rd_lit1 {k : IntKind} {E : TypeId} (w : World) (x : Int) (hw : (Lit.int k x).wf = true) : Rd k (w.alloc (.cells #[.int k x] E)) (.slice (some ⟨w.heap.size, 0, none⟩) 1 1) [x] :=
  (own_lit1 (E := E) w x (Nat.le_refl _) hw).rd

theorem Own.inB {k : IntKind} {E : TypeId} {w w' : World} {B T : Nat} {v : Value} {xs : List Int} (h : Own k E w B T v xs) (hg : w.grownBy w' v.ownBlock) (hB : B ≤ w.heap.size) : Below B w w' :=
  (Below.refl _ _).grown hg hB (fun g hk => (h.1.lt g hk).1)

theorem wpList_app {P : Program} (w : World) {ops : Array Oper} {rest : List Oper} {o : Oper} {a : Act} {Q : Exit → Act → World → Prop} (hgd : o.guard = none) (s x : Operand) (t : TypeId)
    (ho : o.op = .call { callee := .builtin .append, args := #[s, x], argTypes := #[t, t] })
    (B : Nat) (E : TypeId) (k : IntKind) (bytes : Nat) (ht : P.underlying t = some (.slice E)) (hinfo : (P.info? E).map (fun i => (i.zero, i.size, i.bytes)) = some (some (.int k 0), 1, bytes)) (hby : bytes ≤ 8)
    {T : Nat} (v sv : Value) (xs ys : List Int) (hs : a.eval s = v) (hx : a.eval x = sv) (hown : Own k E w B T v xs) (hr : Rd k w sv ys) (hlen : xs.length + ys.length ≤ 1099511627776) (hB : B ≤ w.heap.size)
    (h : ∀ v' w', Own k E w' B w'.heap.size v' (xs ++ ys) → Below B w w' → wpList P ops Q rest (a.put o.dst v') w') : wpList P ops Q (o :: rest) a w := by
  obtain ⟨i0, hi, hz0, hz1, hz2⟩ := info_parts hinfo
  have hwf : ∀ n ∈ xs ++ ys, (Lit.int k n).wf = true := fun n hn => by
    rcases List.mem_append.1 hn with hn | hn
    · exact hown.2.2 n hn
    · exact hr.1 n hn
  have hb1 : (xs.length + ys.length) * bytes ≤ 140737488355328 := by
    have h1 : (xs.length + ys.length) * bytes ≤ (xs.length + ys.length) * 8 := Nat.mul_le_mul_left _ hby
    omega
  have hm1 : xs.length + ys.length ≤ maxLen := by unfold maxLen; omega
  have fin : ∀ v' w', w'.ownsRow B E 1 v' (xs.length + ys.length) (xs.map (Value.int k) ++ ys.map (Value.int k)) → w.grownBy w' v.ownBlock → wpList P ops Q rest (a.put o.dst v') w' := by
    intro v' w' h1 h2
    refine h v' w' (Own.of_row h1 (by simp) (by simp) hwf) (hown.inB h2 hB)
  rcases hr.2 with ⟨rfl, ad, c, rfl, hc, hn⟩ | ⟨h0, b, off, c, rfl, h1, h2, hc⟩
  · cases ad with
    | none =>
      obtain rfl := hn rfl
      refine wpList_append_own_none hgd s x t ho B E i0 1 ht hi v xs.length _ hs hown.1 hx ?_
      exact h v w (by simpa using hown.top) (Below.refl _ _)
    | some ad =>
      exact wpList_append_own w hgd s x t ho B E i0 (.int k 0) 1 bytes ht hi hz0 hz1 hz2 rfl (by decide) v xs.length _ hs hown.1 ad 0 c [] hx (by simp) (by simp) (by simp) hm1 hb1 hB (fun v' w' h1 h2 _ => fin v' w' h1 h2)
  · refine wpList_append_own w hgd s x t ho B E i0 (.int k 0) 1 bytes ht hi hz0 hz1 hz2 rfl (by decide) v xs.length _ hs hown.1 ⟨b, off, none⟩ ys.length c (ys.map (Value.int k)) hx (by simp) ?_ (ints_oneCell k ys) hm1 hb1 hB (fun v' w' h1 h2 _ => fin v' w' h1 h2)
    intro j u hu
    have hj : j < ys.length := by simpa using (List.getElem?_eq_some_iff.1 hu).1
    rw [Addr.add_lit, hc j hj, ← hu]
    simp [hj]
end Go.Proofs.Ytgeodanhjglkhaa

/- append to a slice of the call's own, as an operation under a guard that is decided. No program in sight. -/
import Derived.Test.YtdgffiaciccimaaCStep
namespace Go.Proofs.Ytdgffiaciccimaa
open Go.RowKit
set_option linter.unusedVariables false

theorem wpList_appG {P : Program} (w : World) {ops : Array Oper} {rest : List Oper} {o : Oper} {a : Act} {Q : Exit → Act → World → Prop} (hw : Region.wanted o (yielded ops a.tmps) = true) (s x : Operand) (t : TypeId)
    (ho : o.op = .call { callee := .builtin .append, args := #[s, x], argTypes := #[t, t] })
    (B : Nat) (E : TypeId) (k : IntKind) (bytes : Nat) (ht : P.underlying t = some (.slice E)) (hinfo : (P.info? E).map (fun i => (i.zero, i.size, i.bytes)) = some (some (.int k 0), 1, bytes)) (hby : bytes ≤ 8)
    {T : Nat} (v sv : Value) (xs ys : List Int) (hs : a.eval s = v) (hx : a.eval x = sv) (hown : Own k E w B T v xs) (hr : Rd k w sv ys) (hlen : xs.length + ys.length ≤ 1099511627776) (hB : B ≤ w.heap.size)
    (h : ∀ v' w', Own k E w' B w'.heap.size v' (xs ++ ys) → Below B w w' → wpList P ops Q rest (a.put o.dst v') w') : wpList P ops Q (o :: rest) a w := by
  unfold wpList
  rw [if_pos hw]
  refine .inl ?_
  obtain ⟨i0, hi, hz0, hz1, hz2⟩ := info_parts hinfo
  have hwf : ∀ n ∈ xs ++ ys, (Lit.int k n).wf = true := fun n hn => by
    rcases List.mem_append.1 hn with hn | hn
    · exact hown.2.2 n hn
    · exact hr.1 n hn
  have hb1 : (xs.length + ys.length) * bytes ≤ 140737488355328 := by
    have h1 : (xs.length + ys.length) * bytes ≤ (xs.length + ys.length) * 8 := Nat.mul_le_mul_left _ hby
    omega
  have hm1 : xs.length + ys.length ≤ maxLen := by unfold maxLen; omega
  have fin : ∀ v' w', w'.ownsRow B E 1 v' (xs.length + ys.length) (xs.map (Value.int k) ++ ys.map (Value.int k)) → w.grownBy w' v.ownBlock → wpList P ops Q rest (a.put o.dst v') w' := by
    intro v' w' h1 h2
    refine h v' w' (Own.of_row h1 (by simp) (by simp) hwf) (hown.inB h2 hB)
  rcases hr.2 with ⟨rfl, ad, c, rfl, hc, hn⟩ | ⟨h0, b, off, c, rfl, h1, h2, hc⟩
  · cases ad with
    | none =>
      obtain rfl := hn rfl
      have hrun := run_append_owned_none (P := P) (w := w) B t o.type E i0 1 ht hi v xs.length _ hown.1
      unfold Oper.wp
      simp [execOp, ho, resolve, invoke, builtin, hs, hx, hrun, Result.andThen]
      exact h v w (by simpa using hown.top) (Below.refl _ _)
    | some ad =>
      exact wp_append_own w s x t ho B E i0 (.int k 0) 1 bytes ht hi hz0 hz1 hz2 rfl (by decide) v xs.length _ hs hown.1 ad 0 c [] hx (by simp) (by simp) (by simp) hm1 hb1 hB (fun v' w' h1 h2 _ => fin v' w' h1 h2)
  · refine wp_append_own w s x t ho B E i0 (.int k 0) 1 bytes ht hi hz0 hz1 hz2 rfl (by decide) v xs.length _ hs hown.1 ⟨b, off, none⟩ ys.length c (ys.map (Value.int k)) hx (by simp) ?_ (ints_oneCell k ys) hm1 hb1 hB (fun v' w' h1 h2 _ => fin v' w' h1 h2)
    intro j u hu
    have hj : j < ys.length := by simpa using (List.getElem?_eq_some_iff.1 hu).1
    rw [Addr.add_lit, hc j hj, ← hu]
    simp [hj]
end Go.Proofs.Ytdgffiaciccimaa

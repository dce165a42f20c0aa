/- append to a slice of the call's own, as one step of a region that draws its order. No program in sight. -/
import Derived.Test.YtpmilkemimlmcaaDoorCApp
import Derived.Deep.RegionLaw
namespace Go.Proofs.YtpmilkemimlmcaaDoor
open Go.RowKit
set_option linter.unusedVariables false

theorem step_app {P : Program} {ops : Array Oper} {o : Oper} {a : Act} {w : World} {K : Act → World → Prop} {Q : Exit → Act → World → Prop} {Z : Prop} (hgd : o.guard = none) (s x : Operand) (t : TypeId)
    (ho : o.op = .call { callee := .builtin .append, args := #[s, x], argTypes := #[t, t] })
    (B : Nat) (E : TypeId) (k : IntKind) (bytes : Nat) (ht : P.underlying t = some (.slice E)) (hinfo : (P.info? E).map (fun i => (i.zero, i.size, i.bytes)) = some (some (.int k 0), 1, bytes)) (hby : bytes ≤ 8)
    {T : Nat} (v sv : Value) (xs ys : List Int) (hs : a.eval s = v) (hx : a.eval x = sv) (hown : Own k E w B T v xs) (hr : Rd k w sv ys) (hpos : 0 < ys.length) (hlen : xs.length + ys.length ≤ 1099511627776) (hB : B ≤ w.heap.size)
    (h : ∀ v' w', Own k E w' B w'.heap.size v' (xs ++ ys) → Below B w w' → K (a.put o.dst v') w') :
    if Region.wanted o (yielded ops a.tmps) = true then Oper.wp P o a w K Q else Z := by
  have hw : Region.wanted o (yielded ops a.tmps) = true := by simp [Region.wanted, hgd]
  rw [if_pos hw]
  obtain ⟨i0, hi, hz0, hz1, hz2⟩ := info_parts hinfo
  have hwf : ∀ n ∈ xs ++ ys, (Lit.int k n).wf = true := fun n hn => by
    rcases List.mem_append.1 hn with hn | hn
    · exact hown.2.2 n hn
    · exact hr.1 n hn
  have hb1 : (xs.length + ys.length) * bytes ≤ 140737488355328 := by
    have h1 : (xs.length + ys.length) * bytes ≤ (xs.length + ys.length) * 8 := Nat.mul_le_mul_left _ hby
    omega
  have hm1 : xs.length + ys.length ≤ maxLen := by unfold maxLen; omega
  rcases hr.2 with ⟨rfl, _⟩ | ⟨h0, b, off, c, rfl, h1, h2, hc⟩
  · simp at hpos
  · refine wp_append_own w s x t ho B E i0 (.int k 0) 1 bytes ht hi hz0 hz1 hz2 rfl (by decide) v xs.length _ hs hown.1 ⟨b, off, none⟩ ys.length c (ys.map (Value.int k)) hx (by simp) ?_ (ints_oneCell k ys) hm1 hb1 hB (fun v' w' h1 h2 _ => h v' w' (Own.of_row h1 (by simp) (by simp) hwf) (hown.inB h2 hB))
    intro j u hu
    have hj : j < ys.length := by simpa using (List.getElem?_eq_some_iff.1 hu).1
    rw [Addr.add_lit, hc j hj, ← hu]
    simp [hj]
end Go.Proofs.YtpmilkemimlmcaaDoor

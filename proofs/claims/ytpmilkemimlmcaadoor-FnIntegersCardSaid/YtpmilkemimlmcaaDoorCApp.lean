/- append to a slice of the call's own, from any slice of integers: the walk's law in the words of Own and Rd. No program in sight. -/
import Derived.Test.YtpmilkemimlmcaaDoorBase
import Derived.Laws.AppendOwnNone
import Derived.Laws.CopyOwn
namespace Go.Proofs.YtpmilkemimlmcaaDoor
open Go.RowKit
set_option linter.unusedVariables false

theorem own_lit {k : IntKind} {E : TypeId} (w : World) {B : Nat} (xs : List Int) (hB : B ≤ w.heap.size) (hm : xs.length ≤ maxLen) (hw : ∀ n ∈ xs, (Lit.int k n).wf = true) :
    Own k E (w.alloc (.cells (xs.map (Value.int k)).toArray E)) B (w.heap.size + 1) (.slice (some ⟨w.heap.size, 0, none⟩) xs.length xs.length) xs := by
  have h := World.ownsRow_lit (base := B) (e := E) (size := 1) w (xs.map (Value.int k)).toArray xs.length hB hm (by simp)
  exact ⟨by simpa using h, fun g hg => by simp [Value.ownBlock] at hg; omega, hw⟩

theorem own_lit1 {k : IntKind} {E : TypeId} (w : World) {B : Nat} (x : Int) (hB : B ≤ w.heap.size) (hw : (Lit.int k x).wf = true) :
    Own k E (w.alloc (.cells #[.int k x] E)) B (w.heap.size + 1) (.slice (some ⟨w.heap.size, 0, none⟩) 1 1) [x] :=
  own_lit w [x] hB (by simp [maxLen]) (by simpa using hw)

theorem rd_lit1 {k : IntKind} {E : TypeId} (w : World) (x : Int) (hw : (Lit.int k x).wf = true) : Rd k (w.alloc (.cells #[.int k x] E)) (.slice (some ⟨w.heap.size, 0, none⟩) 1 1) [x] :=
  (own_lit1 (E := E) w x (Nat.le_refl _) hw).rd

theorem Own.inB {k : IntKind} {E : TypeId} {w w' : World} {B T : Nat} {v : Value} {xs : List Int} (h : Own k E w B T v xs) (hg : w.grownBy w' v.ownBlock) (hB : B ≤ w.heap.size) : Below B w w' :=
  (Below.refl _ _).grown hg hB (fun g hk => (h.1.lt g hk).1)

theorem wpList_app {P : Program} (w : World) {ops : Array Oper} {rest : List Oper} {o : Oper} {a : Act} {Q : Exit → Act → World → Prop} (hgd : o.guard = none) (s x : Operand) (t : TypeId)
    (ho : o.op = .call { callee := .builtin .append, args := #[s, x], argTypes := #[t, t] })
    (B : Nat) (E : TypeId) (k : IntKind) (bytes : Nat) (ht : P.underlying t = some (.slice E)) (hinfo : (P.info? E).map (fun i => (i.zero, i.size, i.bytes)) = some (some (.int k 0), 1, bytes)) (hby : bytes ≤ 8)
    {T : Nat} (v sv : Value) (xs ys : List Int) (hs : a.eval s = v) (hx : a.eval x = sv) (hown : Own k E w B T v xs) (hr : Rd k w sv ys) (hlen : xs.length + ys.length ≤ 1099511627776) (hB : B ≤ w.heap.size)
    (h : ∀ v' w', Own k E w' B w'.heap.size v' (xs ++ ys) → Below B w w' → wpList P ops Q rest (a.put o.dst v') w') : wpList P ops Q (o :: rest) a w := by
  obtain ⟨i0, hi, hz0, hz1, hz2⟩ := info_parts hinfo
  have hwf : ∀ n ∈ xs ++ ys, (Lit.int k n).wf = true := fun n hn => by
    rcases List.mem_append.1 hn with hn | hn
    · exact hown.2.2 n hn
    · exact hr.1 n hn
  have hb1 : (xs.length + ys.length) * bytes ≤ 140737488355328 := by
    have h1 : (xs.length + ys.length) * bytes ≤ (xs.length + ys.length) * 8 := Nat.mul_le_mul_left _ hby
    omega
  have hm1 : xs.length + ys.length ≤ maxLen := by unfold maxLen; omega
  have fin : ∀ v' w', w'.ownsRow B E 1 v' (xs.length + ys.length) (xs.map (Value.int k) ++ ys.map (Value.int k)) → w.grownBy w' v.ownBlock → wpList P ops Q rest (a.put o.dst v') w' := by
    intro v' w' h1 h2
    refine h v' w' (Own.of_row h1 (by simp) (by simp) hwf) (hown.inB h2 hB)
  rcases hr.2 with ⟨rfl, ad, c, rfl, hc, hn⟩ | ⟨h0, b, off, c, rfl, h1, h2, hc⟩
  · cases ad with
    | none =>
      obtain rfl := hn rfl
      refine wpList_append_own_none hgd s x t ho B E i0 1 ht hi v xs.length _ hs hown.1 hx ?_
      exact h v w (by simpa using hown.top) (Below.refl _ _)
    | some ad =>
      exact wpList_append_own w hgd s x t ho B E i0 (.int k 0) 1 bytes ht hi hz0 hz1 hz2 rfl (by decide) v xs.length _ hs hown.1 ad 0 c [] hx (by simp) (by simp) (by simp) hm1 hb1 hB (fun v' w' h1 h2 _ => fin v' w' h1 h2)
  · refine wpList_append_own w hgd s x t ho B E i0 (.int k 0) 1 bytes ht hi hz0 hz1 hz2 rfl (by decide) v xs.length _ hs hown.1 ⟨b, off, none⟩ ys.length c (ys.map (Value.int k)) hx (by simp) ?_ (ints_oneCell k ys) hm1 hb1 hB (fun v' w' h1 h2 _ => fin v' w' h1 h2)
    intro j u hu
    have hj : j < ys.length := by simpa using (List.getElem?_eq_some_iff.1 hu).1
    rw [Addr.add_lit, hc j hj, ← hu]
    simp [hj]

theorem wpList_mk {P : Program} (w : World) {ops : Array Oper} {rest : List Oper} {o : Oper} {a : Act} {Q : Exit → Act → World → Prop} (hgd : o.guard = none) (l c : Operand) (t : TypeId) (ho : o.op = Op.makeSlice t l c)
    (B : Nat) (E : TypeId) (k : IntKind) (bytes : Nat) (ht : P.underlying t = some (.slice E)) (hinfo : (P.info? E).map (fun i => (i.zero, i.size, i.bytes)) = some (some (.int k 0), 1, bytes)) (hby : bytes ≤ 8) (h0 : (Lit.int k 0).wf = true)
    (kl kc : IntKind) (L C : Int) (n : Nat) (hl : a.eval l = .int kl L) (hc : a.eval c = .int kc C) (hL : L = (n : Int)) (hC : C = (n : Int)) (hn : n ≤ 1099511627776) (hB : B ≤ w.heap.size)
    (h : ∀ w', Own k E w' B (w.heap.size + 1) (.slice (some ⟨w.heap.size, 0, none⟩) n n) (List.replicate n 0) → Below B w w' → w'.heap.size = w.heap.size + 1 → wpList P ops Q rest (a.put o.dst (.slice (some ⟨w.heap.size, 0, none⟩) n n)) w') :
    wpList P ops Q (o :: rest) a w := by
  obtain ⟨i0, hi, hz0, hz1, hz2⟩ := info_parts hinfo
  have b2 : i0.bytes * n ≤ 281474976710656 := by
    rw [hz2]
    have : bytes * n ≤ 8 * n := Nat.mul_le_mul_right _ hby
    omega
  have b3 : n ≤ maxLen := by unfold maxLen; omega
  refine wpList_plain hgd fun K hK' => ?_
  have hbytes : (i0.bytes : Int) * (n : Int) ≤ 281474976710656 := by
    have h1 : ((i0.bytes * n : Nat) : Int) ≤ 281474976710656 := by omega
    rwa [Int.natCast_mul] at h1
  have hrun := run_make (P := P) w t E i0 (.int k 0) ht hi hz0 kl kc n n (by omega) (by omega) hbytes (by omega)
  subst hL
  subst hC
  simp only [Int.toNat_natCast, hz1] at hrun
  have hm : (madeCells (Value.int k 0).cells (n * 1)) = ((List.replicate n (0 : Int)).map (Value.int k)).toArray := by
    apply Array.ext'
    rw [Nat.mul_one]
    exact made_map k n
  rw [hm] at hrun
  unfold Oper.wp
  simp [execOp, ho, hl, hc, hrun, Result.andThen]
  refine hK' _ _ (h _ ?_ ((Below.refl _ _).alloc hB _) (by simp))
  have h2 := own_lit (k := k) (E := E) w (B := B) (List.replicate n 0) hB (by simpa using b3) (by intro y hy; rw [(List.mem_replicate.1 hy).2]; exact h0)
  simpa using h2

theorem wpList_mk0 {P : Program} (w : World) {ops : Array Oper} {rest : List Oper} {o : Oper} {a : Act} {Q : Exit → Act → World → Prop} (hgd : o.guard = none) (l c : Operand) (t : TypeId) (ho : o.op = Op.makeSlice t l c)
    (B : Nat) (E : TypeId) (k : IntKind) (bytes : Nat) (ht : P.underlying t = some (.slice E)) (hinfo : (P.info? E).map (fun i => (i.zero, i.size, i.bytes)) = some (some (.int k 0), 1, bytes)) (hby : bytes ≤ 8)
    (kl kc : IntKind) (C : Int) (n : Nat) (hl : a.eval l = .int kl 0) (hc : a.eval c = .int kc C) (hC : C = (n : Int)) (hn : n ≤ 1099511627776) (hB : B ≤ w.heap.size)
    (h : ∀ w', Own k E w' B w'.heap.size (.slice (some ⟨w.heap.size, 0, none⟩) 0 n) [] → Below B w w' → wpList P ops Q rest (a.put o.dst (.slice (some ⟨w.heap.size, 0, none⟩) 0 n)) w') :
    wpList P ops Q (o :: rest) a w := by
  obtain ⟨i0, hi, hz0, hz1, hz2⟩ := info_parts hinfo
  have b2 : i0.bytes * n ≤ 281474976710656 := by
    rw [hz2]
    have : bytes * n ≤ 8 * n := Nat.mul_le_mul_right _ hby
    omega
  refine wpList_make_own w hgd l c t ho B E i0 (.int k 0) 1 ht hi hz0 hz1 kl kc C n hl hc hC b2 (by unfold maxLen; omega) hB ?_
  intro w1 hown0 hgrow0
  exact h w1 (Own.of_row (xs := []) hown0 rfl rfl (by simp)) ((Below.refl _ _).grown hgrow0 hB (fun k h => by cases h))

theorem wpList_cpy {P : Program} (w : World) {ops : Array Oper} {rest : List Oper} {o : Oper} {a : Act} {Q : Exit → Act → World → Prop} (hgd : o.guard = none) (d s : Operand) (t : TypeId)
    (ho : o.op = .call { callee := .builtin .copy, args := #[d, s], argTypes := #[t, t] })
    (E : TypeId) (k : IntKind) (bytes : Nat) (ht : P.underlying t = some (.slice E)) (hinfo : (P.info? E).map (fun i => (i.zero, i.size, i.bytes)) = some (some (.int k 0), 1, bytes))
    {B T g n c : Nat} (sv : Value) (xs ys : List Int) (hd : a.eval d = .slice (some ⟨g, 0, none⟩) n c) (hs : a.eval s = sv) (hown : Own k E w B T (.slice (some ⟨g, 0, none⟩) n c) ys) (hr : Rd k w sv xs) (hlen : xs.length = n)
    (h : ∀ w', Own k E w' B T (.slice (some ⟨g, 0, none⟩) n c) xs → Below B w w' → wpList P ops Q rest (a.put o.dst (.int .i64 (n : Int))) w') :
    wpList P ops Q (o :: rest) a w := by
  obtain ⟨i0, hi, hz0, hz1, hz2⟩ := info_parts hinfo
  have hsz : (P.info? E).map (·.size) = some 1 := by rw [hi]; simp [hz1]
  have hyl : ys.length = n := hown.len.symm
  obtain ⟨ad, sc, hsv⟩ := hr.shape
  rcases hown.1.2 with ⟨h1, _⟩ | ⟨g', cap, cur, h1, hbg, hgg, hnc, hcm, hcs, htk⟩
  · simp at h1
  simp only [Value.slice.injEq, Option.some.injEq, Addr.mk.injEq, and_true] at h1
  obtain ⟨rfl, h2, rfl⟩ := h1
  rw [Nat.mul_one] at hcs
  have hxs : xs.length ≤ cur.size := by omega
  refine wpList_copy_splice hgd d s t t ho E ht hsz _ ad n c xs.length sc hd (by rw [hs, hsv]) g 0 cur.toList E (by simpa using hgg) (xs.map (Value.int k)) (by rw [hlen]; simp [hlen]) ?_ (by simpa using hxs) (ints_oneCell k xs) B w (Below.refl _ _) hbg ?_
  · intro hp
    refine ⟨rfl, ?_⟩
    rcases hr.2 with ⟨rfl, _⟩ | ⟨h0, b, off, c', hv, h3, h4, hc⟩
    · simp at hp
    · rw [hsv] at hv
      simp only [Value.slice.injEq] at hv
      refine ⟨_, hv.1, ?_⟩
      intro j u hu
      have hj : j < xs.length := by simpa using (List.getElem?_eq_some_iff.1 hu).1
      rw [Addr.add_lit, hc j hj, ← hu]
      simp [hj]
  · intro w' HG hb
    have hg2 := HG.out
    have hl2 : (xs.map (Value.int k)).length = n := by simpa using hlen
    rw [hl2]
    refine h w' ⟨⟨by simp, .inr ⟨g, c, _, by rw [hlen], hbg, hg2, by omega, hcm, ?_, ?_⟩⟩, fun q hq => hown.2.1 q hq, hr.1⟩ hb
    · simp only [splice, List.take_zero, List.nil_append, Nat.zero_add, List.size_toArray, List.length_append, List.length_drop, Array.length_toList, List.length_map]
      omega
    · simp only [splice, List.take_zero, List.nil_append, Nat.mul_one]
      exact List.take_left' (by simp)
end Go.Proofs.YtpmilkemimlmcaaDoor

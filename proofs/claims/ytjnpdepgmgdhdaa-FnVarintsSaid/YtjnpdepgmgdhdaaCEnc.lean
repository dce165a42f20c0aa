/- Contracts of AppendBytes and EncodeInts (program and reference). -/
import Derived.Test.YtjnpdepgmgdhdaaCAuv
namespace Go.Proofs.Ytjnpdepgmgdhdaa
open Go.RowKit
set_option linter.unusedVariables false

def appB (xs ys : List Int) : List Int := auv xs ys.length ++ ys
theorem appB_len (xs ys : List Int) : (appB xs ys).length ≤ xs.length + 6 + ys.length := by
  have := auv_len xs ys.length
  simp [appB]; omega
def encL (vs : List Int) : List Int := vs.foldl auv []
theorem encL_step {x : Int} {vs : List Int} {k : Nat} (h : k < vs.length) (hx : vs.getD k 0 = x) : encL (vs.take (k + 1)) = auv (encL (vs.take k)) x := foldl_take h hx
theorem enc_fold (vs : List Int) : ∀ acc : List Int, (vs.foldl auv acc).length ≤ acc.length + 6 * vs.length := by
  induction vs with
  | nil => intro acc; simp
  | cons a t ih => intro acc; have := ih (auv acc a); have := auv_len acc a; simp only [List.foldl_cons, List.length_cons]; omega
theorem encL_len (vs : List Int) : (encL vs).length ≤ 6 * vs.length := by have := enc_fold vs []; simpa [encL] using this

set_option maxHeartbeats 800000 in
theorem spec_AppendBytes (u v : Value) (xs ys : List Int) (w : World) (hu : Rd .u8 w u xs) (hv : Rd .u8 w v ys) (hx : xs.length ≤ 1073741824) (hy : ys.length ≤ 1073741824) :
    Calls Try.prog 19 #[u, v] w (Fresh .u8 5 (appB xs ys) w) := by
  obtain ⟨a, c, rfl⟩ := hv.shape
  have hl := auv_len xs ys.length
  go_enter Try.func19, Try.ntmps19
  go_wp2_with fail
  refine (spec_AppendUvarint _ _ _ _ hu (by omega) hx).mono ?_
  rintro e w1 ⟨v1, rfl, o1, b1⟩
  have r1 := hv.keep b1
  have s1 := b1.size
  obtain ⟨zs, hz⟩ : ∃ zs, zs = auv xs ys.length := ⟨_, rfl⟩
  rw [← hz] at o1 hl
  have HZ := Lib.hid hz
  have hl2 : zs.length ≤ 1073741830 := by omega
  clear hz hl
  go_wp2_with (at_builtin; refine wpList_app _ rfl (.tmp 8) (.tmp 9) 22 rfl w.heap.size 5 .u8 1 Try.underlying22 info8 (by omega) _ _ zs ys rfl rfl o1 r1 (by omega) s1 ?_)
  intro v2 w2 o2 b2
  go_wp2
  go_ret
  exact ⟨_, rfl, by rw [show appB xs ys = zs ++ ys from by rw [HZ.out]; rfl]; exact o2, b1.trans b2⟩
set_option maxHeartbeats 800000 in
theorem impl_AppendBytes (u v : Value) (xs ys : List Int) (w : World) (hu : Rd .u8 w u xs) (hv : Rd .u8 w v ys) (hx : xs.length ≤ 1073741824) (hy : ys.length ≤ 1073741824) :
    Calls Try.prog 20 #[u, v] w (Fresh .u8 5 (appB xs ys) w) := by
  obtain ⟨a, c, rfl⟩ := hv.shape
  have hl := auv_len xs ys.length
  go_enter Try.func20, Try.ntmps20
  go_wp2_with fail
  refine (impl_AppendUvarint _ _ _ _ hu (by omega) hx).mono ?_
  rintro e w1 ⟨v1, rfl, o1, b1⟩
  have r1 := hv.keep b1
  have s1 := b1.size
  obtain ⟨zs, hz⟩ : ∃ zs, zs = auv xs ys.length := ⟨_, rfl⟩
  rw [← hz] at o1 hl
  have HZ := Lib.hid hz
  have hl2 : zs.length ≤ 1073741830 := by omega
  clear hz hl
  go_wp2_with (at_builtin; refine wpList_app _ rfl (.tmp 10) (.tmp 11) 22 rfl w.heap.size 5 .u8 1 Try.underlying22 info8 (by omega) _ _ zs ys rfl rfl o1 r1 (by omega) s1 ?_)
  intro v2 w2 o2 b2
  go_wp2
  go_ret
  exact ⟨_, rfl, by rw [show appB xs ys = zs ++ ys from by rw [HZ.out]; rfl]; exact o2, b1.trans b2⟩
set_option maxHeartbeats 800000 in
theorem spec_EncodeInts (u : Value) (xs : List Int) (w : World) (hu : Rd .i64 w u xs) (hn : xs.length ≤ 100000000) :
    Calls Try.prog 23 #[u] w (Fresh .u8 5 (encL xs) w) := by
  rcases hu.parts with ⟨rfl, a, c, rfl⟩ | ⟨h0, b, off, c, rfl⟩
  · go_enter Try.func23, Try.ntmps23
    go_wp2
    go_rounds 1
    go_ret
    exact ⟨_, rfl, (own_lit0 w (Nat.le_refl _)).top, (Below.refl _ _).alloc (Nat.le_refl _) _⟩
  · go_enter Try.func23, Try.ntmps23
    go_wp2
    go_loopw [3, 4] (fun v i wr => ∃ k : Nat, k ≤ xs.length ∧ i = .int .i64 k ∧ Own .u8 5 wr w.heap.size wr.heap.size v (encL (xs.take k)) ∧ Below w.heap.size w wr) (fun _ i _ => xs.length - (intOf i).toNat)
    case atStart => exact ⟨0, Nat.zero_le _, rfl, (own_lit0 w (Nat.le_refl _)).top, (Below.refl _ _).alloc (Nat.le_refl _) _⟩
    case round =>
      obtain ⟨k, hk, rfl, hr, hbw⟩ := hrel
      have hl := encL_len (xs.take k)
      have hl1 : (xs.take k).length ≤ k := List.length_take_le _ _
      have hl2 : (encL (xs.take k)).length ≤ 1073741824 := by omega
      clear hl hl1
      by_cases hlt : k < xs.length
      · obtain ⟨x, hb, HX, g1, x0, x1⟩ := hu.elem64 hbw hlt
        have HM := Lib.hid (encL_step hlt HX.out)
        go_wp2_with fail
        refine (spec_AppendUvarint _ _ _ _ hr.rd ⟨x0, x1⟩ hl2).mono ?_
        rintro e w2 ⟨v2, rfl, o2, b2⟩
        have b2' := below_next hbw b2
        have o2' := o2.mono hbw.size (Nat.le_refl _)
        clear hr hbw o2 b2
        go_wp2
        go_roundw
        case rel => exact ⟨k + 1, by omega, by go_num, by rw [HM.out]; exact o2', b2'⟩
        case measure => simp [intOf]; omega
      · rw [take_all hlt] at hr
        go_wp2
        go_ret
        exact ⟨_, rfl, hr, hbw⟩
set_option maxHeartbeats 800000 in
theorem impl_EncodeInts (u : Value) (xs : List Int) (w : World) (hu : Rd .i64 w u xs) (hn : xs.length ≤ 100000000) :
    Calls Try.prog 25 #[u] w (Fresh .u8 5 (encL xs) w) := by
  rcases hu.parts with ⟨rfl, a, c, rfl⟩ | ⟨h0, b, off, c, rfl⟩
  · go_enter Try.func25, Try.ntmps25
    go_wp2
    go_rounds 1
    go_ret
    exact ⟨_, rfl, (own_lit0 w (Nat.le_refl _)).top, (Below.refl _ _).alloc (Nat.le_refl _) _⟩
  · go_enter Try.func25, Try.ntmps25
    go_wp2
    go_loopw [3, 9] (fun v i wr => ∃ k : Nat, k ≤ xs.length ∧ i = .int .i64 k ∧ Own .u8 5 wr w.heap.size wr.heap.size v (encL (xs.take k)) ∧ Below w.heap.size w wr) (fun _ i _ => xs.length - (intOf i).toNat)
    case atStart => exact ⟨0, Nat.zero_le _, rfl, (own_lit0 w (Nat.le_refl _)).top, (Below.refl _ _).alloc (Nat.le_refl _) _⟩
    case round =>
      obtain ⟨k, hk, rfl, hr, hbw⟩ := hrel
      have hl := encL_len (xs.take k)
      have hl1 : (xs.take k).length ≤ k := List.length_take_le _ _
      have hl2 : (encL (xs.take k)).length ≤ 1073741824 := by omega
      clear hl hl1
      by_cases hlt : k < xs.length
      · obtain ⟨x, hb, HX, g1, x0, x1⟩ := hu.elem64 hbw hlt
        have HM := Lib.hid (encL_step hlt HX.out)
        go_wp2_with fail
        refine (impl_AppendUvarint _ _ _ _ hr.rd ⟨x0, x1⟩ hl2).mono ?_
        rintro e w2 ⟨v2, rfl, o2, b2⟩
        have b2' := below_next hbw b2
        have o2' := o2.mono hbw.size (Nat.le_refl _)
        clear hr hbw o2 b2
        go_wp2
        go_roundw
        case rel => exact ⟨k + 1, by omega, by go_num, by rw [HM.out]; exact o2', b2'⟩
        case measure => simp [intOf]; omega
      · rw [take_all hlt] at hr
        go_wp2
        go_ret
        exact ⟨_, rfl, hr, hbw⟩
end Go.Proofs.Ytjnpdepgmgdhdaa

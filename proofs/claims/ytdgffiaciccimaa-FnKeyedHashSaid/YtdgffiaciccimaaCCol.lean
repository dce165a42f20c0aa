/- Contracts of Puncture, PuncturedLength and BytesToInts (program and reference). -/
import Derived.Test.YtdgffiaciccimaaCApp
import Derived.Test.YtdgffiaciccimaaCInfo
import Derived.Test.YtdgffiaciccimaaCLit
namespace Go.Proofs.Ytdgffiaciccimaa
open Go.RowKit
set_option linter.unusedVariables false

/-- What is left of the first k symbols. -/
def punN (xs : List Int) : Nat → List Int
  | 0 => []
  | k + 1 => if k % 4 = 3 then punN xs k else punN xs k ++ [xs.getD k 0]
theorem punN_len (xs : List Int) : ∀ k, (punN xs k).length = k - k / 4
  | 0 => rfl
  | k + 1 => by
    have := punN_len xs k
    rw [punN]; split
    · omega
    · simp; omega
def pun (xs : List Int) : List Int := punN xs xs.length
theorem pun_len (xs : List Int) : (pun xs).length = xs.length - xs.length / 4 := punN_len _ _
theorem getD_wf {kd : IntKind} {xs : List Int} (h : ∀ n ∈ xs, (Lit.int kd n).wf = true) {k : Nat} (hk : k < xs.length) : (Lit.int kd (xs.getD k 0)).wf = true := by
  rw [List.getD_eq_getElem?_getD, List.getElem?_eq_getElem hk]
  exact h _ (List.getElem_mem hk)
set_option maxHeartbeats 800000 in
theorem spec_BytesToInts (u : Value) (xs : List Int) (w : World) (hu : Rd .u8 w u xs) (hn : xs.length ≤ 1073741824) :
    Calls Try.prog 41 #[u] w (Fresh .i64 3 ((xs.length : Int) :: xs) w) := by
  rcases hu.parts with ⟨rfl, a, c, rfl⟩ | ⟨h0, b, off, c, rfl⟩
  · go_enter Try.func41, Try.ntmps41
    go_wp2
    go_rounds 1
    go_ret
    exact ⟨_, rfl, (own_lit1 w 0 (Nat.le_refl _) (by go_wf)).top, (Below.refl _ _).alloc (Nat.le_refl _) _⟩
  · go_enter Try.func41, Try.ntmps41
    go_wp2
    go_loopw [3, 4] (fun v i wr => ∃ k : Nat, k ≤ xs.length ∧ i = .int .i64 k ∧ Own .i64 3 wr w.heap.size wr.heap.size v ((xs.length : Int) :: xs.take k) ∧ Below w.heap.size w wr) (fun _ i _ => xs.length - (intOf i).toNat)
    case atStart => exact ⟨0, Nat.zero_le _, rfl, (own_lit1 w _ (Nat.le_refl _) (by go_wf)).top, (Below.refl _ _).alloc (Nat.le_refl _) _⟩
    case round =>
      obtain ⟨k, hk, rfl, hr, hbw⟩ := hrel
      have hsz := hbw.size
      have hl2 : ((xs.length : Int) :: xs.take k).length ≤ 1073741825 := by simp; omega
      by_cases hlt : k < xs.length
      · obtain ⟨x, hb, HX, g1, x0, x1⟩ := hu.elem8 hbw hlt
        have HM : Hid ((xs.length : Int) :: xs.take (k + 1) = ((xs.length : Int) :: xs.take k) ++ [x]) := Lib.hid (by rw [take_getD hlt, HX.out]; rfl)
        go_wp2_with (at_builtin; refine wpList_app _ rfl (.tmp 14) (.tmp 20) 36 rfl w.heap.size 3 .i64 8 Try.underlying36 info64 (by omega) _ _ _ [x] rfl rfl (hr.alloc _) (rd_lit1 _ _ (by go_wf)) (by simp; omega) (by simp; omega) ?_)
        intro v' w' o' b'
        have hbw' := (hbw.alloc hsz _).trans b'
        go_wp2
        go_roundw
        case rel => exact ⟨k + 1, by omega, by go_num, by rw [HM.out]; exact o', hbw'⟩
        case measure => simp [intOf]; omega
      · rw [take_all hlt] at hr
        go_wp2
        go_ret
        exact ⟨_, rfl, hr, hbw⟩
set_option maxHeartbeats 800000 in
theorem impl_BytesToInts (u : Value) (xs : List Int) (w : World) (hu : Rd .u8 w u xs) (hn : xs.length ≤ 1073741824) :
    Calls Try.prog 43 #[u] w (Fresh .i64 3 ((xs.length : Int) :: xs) w) := by
  rcases hu.parts with ⟨rfl, a, c, rfl⟩ | ⟨h0, b, off, c, rfl⟩
  · go_enter Try.func43, Try.ntmps43
    go_wp2_with (at_make; refine wpList_mk0 _ rfl _ _ 36 rfl w.heap.size 3 .i64 8 Try.underlying36 info64 (by omega) _ _ _ 1 rfl rfl (by omega) (by omega) (Nat.le_refl _) ?_)
    intro w1 o1 b1
    have s1 := b1.size
    go_wp2_with (at_builtin; refine wpList_app _ rfl (.tmp 10) (.tmp 13) 36 rfl w.heap.size 3 .i64 8 Try.underlying36 info64 (by omega) _ _ [] [(0 : Int)] rfl rfl (o1.alloc _) (rd_lit1 _ _ (by go_wf)) (by simp) (by simp; omega) ?_)
    intro v2 w2 o2 b2
    have b2' := (b1.alloc s1 _).trans b2
    go_wp2
    go_rounds 1
    go_ret
    exact ⟨_, rfl, o2, b2'⟩
  · go_enter Try.func43, Try.ntmps43
    go_wp2_with (at_make; refine wpList_mk0 _ rfl _ _ 36 rfl w.heap.size 3 .i64 8 Try.underlying36 info64 (by omega) _ _ _ (xs.length + 1) rfl rfl (by omega) (by omega) (Nat.le_refl _) ?_)
    intro w1 o1 b1
    have s1 := b1.size
    go_wp2_with (at_builtin; refine wpList_app _ rfl (.tmp 10) (.tmp 13) 36 rfl w.heap.size 3 .i64 8 Try.underlying36 info64 (by omega) _ _ [] [(xs.length : Int)] rfl rfl (o1.alloc _) (rd_lit1 _ _ (by go_wf)) (by simp) (by simp; omega) ?_)
    intro v2 w2 o2 b2
    have b2' := (b1.alloc s1 _).trans b2
    go_wp2
    go_loopw [3, 17] (fun v i wr => ∃ k : Nat, k ≤ xs.length ∧ i = .int .i64 k ∧ Own .i64 3 wr w.heap.size wr.heap.size v ((xs.length : Int) :: xs.take k) ∧ Below w.heap.size w wr) (fun _ i _ => xs.length - (intOf i).toNat)
    case atStart => exact ⟨0, Nat.zero_le _, rfl, o2, b2'⟩
    case round =>
      obtain ⟨k, hk, rfl, hr, hbw⟩ := hrel
      have hsz := hbw.size
      have hl2 : ((xs.length : Int) :: xs.take k).length ≤ 1073741825 := by simp; omega
      by_cases hlt : k < xs.length
      · obtain ⟨x, hb, HX, g1, x0, x1⟩ := hu.elem8 hbw hlt
        have HM : Hid ((xs.length : Int) :: xs.take (k + 1) = ((xs.length : Int) :: xs.take k) ++ [x]) := Lib.hid (by rw [take_getD hlt, HX.out]; rfl)
        go_wp2_with (at_builtin; refine wpList_app _ rfl (.tmp 21) (.tmp 24) 36 rfl w.heap.size 3 .i64 8 Try.underlying36 info64 (by omega) _ _ _ [x] rfl rfl (hr.alloc _) (rd_lit1 _ _ (by go_wf)) (by simp; omega) (by simp; omega) ?_)
        intro v' w' o' b'
        have hbw' := (hbw.alloc hsz _).trans b'
        go_wp2
        go_roundw
        case rel => exact ⟨k + 1, by omega, by go_num, by rw [HM.out]; exact o', hbw'⟩
        case measure => simp [intOf]; omega
      · rw [take_all hlt] at hr
        go_wp2
        go_ret
        exact ⟨_, rfl, hr, hbw⟩
end Go.Proofs.Ytdgffiaciccimaa

/- Contracts of the laws' helpers: a copy in new memory; marking a slice; asking whether it is still marked. -/
import Derived.Test.YtdgffiaciccimaaProg
import Derived.Test.YtdgffiaciccimaaBase
import Derived.Test.YtdgffiaciccimaaCInfo
namespace Go.Proofs.Ytdgffiaciccimaa
open Go.RowKit
set_option linter.unusedVariables false

set_option maxHeartbeats 800000 in
theorem laws_toByteS (u : Value) (xs : List Int) (w : World) (hu : Rd .u8 w u xs) (hn : xs.length ≤ 1073741824) :
    Calls Try.prog 13 #[u] w (Fresh .u8 5 xs w) := by
  have H0 : Hid (0 ≤ w.heap.size) := Lib.hid (Nat.zero_le _)
  obtain ⟨i0, hi, hz0, hz1, hz2⟩ := info_parts info8
  rcases hu.parts with ⟨rfl, a, c, rfl⟩ | ⟨h0, b, off, c, rfl⟩
  · go_enter Try.func13, Try.ntmps13
    go_wp2_with (at_make; refine wpList_make_full _ rfl _ _ 24 rfl w.heap.size 5 i0 (.int .u8 0) 1 Try.underlying24 hi hz0 hz1 _ _ _ _ 0 rfl rfl rfl rfl ?b2 ?b3 (Nat.le_refl _) ?_)
    case b2 => omega
    case b3 => unfold maxLen; omega
    intro w0 hown0 hgrow0
    have hb0 : Below w.heap.size w w0 := (Below.refl _ _).grown hgrow0 (Nat.le_refl _) (fun k h => by cases h)
    have hown : Own .u8 5 w0 w.heap.size w0.heap.size (.slice (some ⟨w.heap.size, 0, none⟩) 0 0) [] := Own.of_row (xs := []) hown0 rfl (by first | rfl | simp [madeCells]) (by simp)
    clear hown0 hgrow0
    go_wp2
    go_rounds 1
    go_ret
    exact ⟨_, rfl, hown, hb0⟩
  · go_enter Try.func13, Try.ntmps13
    go_wp2_with (at_make; refine wpList_make_full _ rfl _ _ 24 rfl w.heap.size 5 i0 (.int .u8 0) 1 Try.underlying24 hi hz0 hz1 _ _ _ _ xs.length rfl rfl rfl rfl ?b2 ?b3 (Nat.le_refl _) ?_)
    case b2 => rw [hz2]; omega
    case b3 => unfold maxLen; omega
    intro w0 hown0 hgrow0
    have hb0 : Below w.heap.size w w0 := (Below.refl _ _).grown hgrow0 (Nat.le_refl _) (fun k h => by cases h)
    have hown : Own .u8 5 w0 w.heap.size (w.heap.size + 1) (.slice (some ⟨w.heap.size, 0, none⟩) xs.length xs.length) (List.replicate xs.length 0) := by
      rw [made_map] at hown0
      have h1 := (Own.of_row (k := .u8) hown0 (by simp) rfl (by intro y hy; rw [(List.mem_replicate.1 hy).2]; rfl))
      exact ⟨h1.1, fun g hg => by simp [Value.ownBlock] at hg; omega, h1.2.2⟩
    clear hown0 hgrow0
    go_wp2
    go_loopw [4] (fun i wr => ∃ k : Nat, k ≤ xs.length ∧ i = .int .i64 k ∧ Own .u8 5 wr w.heap.size (w.heap.size + 1) (.slice (some ⟨w.heap.size, 0, none⟩) xs.length xs.length) (xs.take k ++ List.replicate (xs.length - k) 0) ∧ Below w.heap.size w wr) (fun i _ => xs.length - (intOf i).toNat)
    case atStart => exact ⟨0, Nat.zero_le _, rfl, by simpa using hown, hb0⟩
    case round =>
      obtain ⟨k, hk, rfl, hr, hbw⟩ := hrel
      by_cases hlt : k < xs.length
      · obtain ⟨x, hb, HX, g1, x0, x1⟩ := hu.elem8 hbw hlt
        have hst := hr.stored (j := k) (x := x) (by go_wf)
        rw [fill_set rfl hlt HX.out] at hst
        have g2 := hr.cell (j := k) (by rw [fill_len rfl hk]; exact hlt)
        obtain ⟨y, hy⟩ : ∃ y, y = (xs.take k ++ List.replicate (xs.length - k) 0).getD k 0 := ⟨_, rfl⟩
        rw [← hy] at g2
        have g3 := hr.frozen k
        clear hr hy hown
        go_wp2
        go_roundw
        case rel => exact ⟨k + 1, by omega, by go_num, hst.1, hbw.trans (hst.2.below (Nat.le_refl _) hbw.size)⟩
        case measure => simp [intOf]; omega
      · rw [take_all hlt, show xs.length - k = 0 by omega, List.replicate_zero, List.append_nil] at hr
        go_wp2
        go_ret
        exact ⟨_, rfl, hr.top, hbw⟩
set_option maxHeartbeats 800000 in
theorem laws_markByteS (v : Value) (xs : List Int) (k : Int) (w : World) {B T : Nat} (hv : Own .u8 5 w B T v xs) (hk : 0 ≤ k ∧ k ≤ 1099511627776) (hn : xs.length ≤ 1099511627776) :
    Calls Try.prog 16 #[v, .int .i64 k] w fun e w' => e = .returned (.int .i64 (k + xs.length)) ∧ Own .u8 5 w' B T v (marks (· % 256) k xs.length) ∧ Only B T w w' := by
  obtain ⟨k0, k1⟩ := hk
  rcases hv.parts with ⟨rfl, a, c, rfl⟩ | ⟨h0, g, c, rfl⟩
  · go_enter Try.func16, Try.ntmps16
    go_wp2
    go_rounds 1
    go_ret
    exact ⟨ret_int (by simp), hv, Only.refl _ _ _⟩
  · go_enter Try.func16, Try.ntmps16
    go_wp2
    go_loopw [1, 5] (fun m i wr => ∃ j : Nat, j ≤ xs.length ∧ i = .int .i64 j ∧ m = .int .i64 (k + j) ∧ Own .u8 5 wr B T (.slice (some ⟨g, 0, none⟩) xs.length c) (marks (· % 256) k j ++ xs.drop j) ∧ Only B T w wr) (fun _ i _ => xs.length - (intOf i).toNat)
    case atStart => exact ⟨0, Nat.zero_le _, rfl, by go_num, by simpa [marks] using hv, Only.refl _ _ _⟩
    case round =>
      obtain ⟨j, hj, rfl, rfl, hr, hbw⟩ := hrel
      by_cases hlt : j < xs.length
      · have hst := hr.stored (j := j) (x := (· % 256) (k + j)) (by dsimp only; go_wf)
        rw [marks_set hlt] at hst
        have g2 := hr.cell (j := j) (by rw [marks_mid_len hj]; exact hlt)
        obtain ⟨y, hy⟩ : ∃ y, y = (marks (· % 256) k j ++ xs.drop j).getD j 0 := ⟨_, rfl⟩
        rw [← hy] at g2
        have g3 := hr.frozen j
        clear hr hy hv
        go_wp2
        go_roundw
        case rel => exact ⟨j + 1, by omega, by go_num, by go_num, hst.1, hbw.trans hst.2⟩
        case measure => simp [intOf]; omega
      · have he : j = xs.length := by omega
        subst he
        rw [List.drop_length, List.append_nil] at hr
        go_wp2
        go_ret
        exact ⟨rfl, hr, hbw⟩
set_option maxHeartbeats 800000 in
theorem laws_heldByteS (v : Value) (n : Nat) (k : Int) (w : World) (hv : Rd .u8 w v (marks (· % 256) k n)) (hk : 0 ≤ k ∧ k ≤ 1099511627776) (hn : n ≤ 1099511627776) :
    Calls Try.prog 17 #[v, .int .i64 k] w fun e w' => e = .returned (.int .i64 (k + n)) ∧ Below w.heap.size w w' := by
  obtain ⟨k0, k1⟩ := hk
  rcases hv.parts with ⟨h0, a, c, rfl⟩ | ⟨h0, b, off, c, rfl⟩
  · have hn0 : n = 0 := by rw [← marks_len (· % 256) k n, h0]; rfl
    subst hn0
    go_enter Try.func17, Try.ntmps17
    go_wp2
    go_rounds 1
    go_ret
    exact ⟨ret_int (by simp), Below.refl _ _⟩
  · rw [marks_len] at h0 hv ⊢
    go_enter Try.func17, Try.ntmps17
    go_wp2
    go_loopw [1, 5] (fun m i wr => ∃ j : Nat, j ≤ n ∧ i = .int .i64 j ∧ m = .int .i64 (k + j) ∧ Below w.heap.size w wr) (fun _ i _ => n - (intOf i).toNat)
    case atStart => exact ⟨0, Nat.zero_le _, rfl, by go_num, Below.refl _ _⟩
    case round =>
      obtain ⟨j, hj, rfl, rfl, hbw⟩ := hrel
      by_cases hlt : j < n
      · obtain ⟨x, hb, HX, g1, x0, x1⟩ := hv.elem8 (j := j) hbw (by rw [marks_len]; exact hlt)
        have hx := HX.out
        rw [marks_getD _ _ hlt] at hx
        subst hx
        clear HX
        go_wp2
        go_roundw
        case rel => exact ⟨j + 1, by omega, by go_num, by go_num, hbw⟩
        case measure => simp [intOf]; omega
      · have he : j = n := by omega
        subst he
        go_wp2
        go_ret
        exact ⟨rfl, hbw⟩
end Go.Proofs.Ytdgffiaciccimaa

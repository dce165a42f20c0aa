/- Contracts of Depuncture (program and reference). -/
import Derived.Test.YtgaoiljedfogjaaCCol
import Derived.Test.YtgaoiljedfogjaaCIn
import Derived.Test.YtgaoiljedfogjaaCItb
namespace Go.Proofs.Ytgaoiljedfogjaa
open Go.RowKit
set_option linter.unusedVariables false

/-- The first k symbols, erasures laid in for those that were removed. -/
def depN (xs : List Int) : Nat → List Int
  | 0 => []
  | k + 1 => depN xs k ++ [if k % 4 = 3 then 2 else xs.getD (k - k / 4) 0]
theorem depN_len (xs : List Int) : ∀ k, (depN xs k).length = k
  | 0 => rfl
  | k + 1 => by simp [depN, depN_len xs k]
def dep (xs : List Int) (n : Int) : List Int := if (0 ≤ n ∧ n ≤ 4000) ∧ (xs.length : Int) = ((n.toNat - n.toNat / 4 : Nat) : Int) then depN xs n.toNat else []
theorem dep_len (xs : List Int) (n : Int) : (dep xs n).length ≤ 4000 := by
  unfold dep; split
  · rw [depN_len]; omega
  · simp
set_option maxHeartbeats 1600000 in
theorem spec_Depuncture (u : Value) (xs : List Int) (n : Int) (w : World) (hu : Rd .i64 w u xs) (hn : -9223372036854775808 ≤ n ∧ n ≤ 9223372036854775807) (hx : xs.length ≤ 1073741824) :
    Calls Try.prog 37 #[u, .int .i64 n] w (Fresh .i64 3 (dep xs n) w) := by
  by_cases h : 0 ≤ n ∧ n ≤ 4000
  · obtain ⟨n, rfl⟩ := Int.eq_ofNat_of_zero_le h.1
    have h2 : n ≤ 4000 := by omega
    by_cases hl : xs.length = n - n / 4
    · rw [show dep xs (n : Int) = depN xs n from if_pos ⟨h, by rw [hl]; rfl⟩]
      have hne : ((xs.length : Int) != ((n - n / 4 : Nat) : Int)) = false := by simp; omega
      have hl1 : xs.length ≤ n - n / 4 := by omega
      have hl2 : n - n / 4 ≤ xs.length := by omega
      obtain ⟨q, hq⟩ : ∃ q, q = n - n / 4 := ⟨_, rfl⟩
      have PL : ∀ W, Calls Try.prog 62 #[.int .i64 (n : Int)] W fun e w' => e = .returned (.int .i64 (q : Int)) ∧ W = w' := fun W => by rw [hq]; exact spec_PuncturedLength n W (by omega)
      have PLH := Lib.hid PL
      rw [← hq] at hne hl1 hl2
      have HQ := Lib.hid hq
      clear hq hl h hn PL
      rcases hu.parts with ⟨h0, a, c, rfl⟩ | ⟨h0, b0, off0, c, rfl⟩
      · have hx0 : xs.length = 0 := by rw [h0]; rfl
        have hn0 : n ≤ 0 := by have := HQ.out; omega
        have hq0 : ((0 : Int) != (q : Int)) = false := by simp; omega
        clear hx0
        have hn1 : n = 0 := by omega
        subst hn1
        clear h0
        go_enter Try.func37, Try.ntmps37
        go_wp2_with (first | (go_at_call 55; refine (spec_in_yes _ _ _ _ (by omega)).mono ?_; rintro e w' ⟨rfl, rfl⟩) | (go_at_call 62; refine (PLH.out _).mono ?_; rintro e w' ⟨rfl, rfl⟩))
        go_rounds 1
        go_ret
        exact ⟨_, rfl, show Own .i64 3 _ _ _ _ [] from (own_lit0 w (Nat.le_refl _)).top, (Below.refl _ _).alloc (Nat.le_refl _) _⟩
      · go_enter Try.func37, Try.ntmps37
        have H3 : n ≤ 3 ∨ 0 < xs.length := by have := HQ.out; omega
        go_wp2_with (first | (go_at_call 55; refine (spec_in_yes _ _ _ _ (by omega)).mono ?_; rintro e w' ⟨rfl, rfl⟩) | (go_at_call 62; refine (PLH.out _).mono ?_; rintro e w' ⟨rfl, rfl⟩))
        go_loopw [5, 6, 7] (fun v m i wr => ∃ k m' : Nat, k ≤ n ∧ Hid (m' = k - k / 4) ∧ i = .int .i64 k ∧ m = .int .i64 m' ∧ Own .i64 3 wr w.heap.size wr.heap.size v (depN xs k) ∧ Below w.heap.size w wr) (fun _ _ i _ => n - (intOf i).toNat)
        case atStart => exact ⟨0, 0, Nat.zero_le _, Lib.hid rfl, rfl, rfl, (own_lit0 w (Nat.le_refl _)).top, (Below.refl _ _).alloc (Nat.le_refl _) _⟩
        case round =>
          obtain ⟨k, m, hk, HMM, rfl, rfl, hr, hbw⟩ := hrel
          have hsz := hbw.size
          have hl4 : (depN xs k).length ≤ 4000 := by rw [depN_len]; omega
          have hm4 : m ≤ 4000 := by have := HMM.out; omega
          by_cases hlt : k < n
          · by_cases hm : k % 4 = 3
            · have hm1 : ((k : Int) % 4 == 3) = true := by simp; omega
              have HM : Hid (depN xs (k + 1) = depN xs k ++ [2]) := Lib.hid (by rw [depN, if_pos hm])
              have HNX : Hid (m = (k + 1) - (k + 1) / 4) := Lib.hid (by have := HMM.out; omega)
              clear hm
              go_wp2_with (at_builtin; refine wpList_app _ rfl (.tmp 28) (.tmp 29) 22 rfl w.heap.size 3 .i64 8 Try.underlying22 info64 (by omega) _ _ (depN xs k) [2] rfl rfl (hr.alloc _) (rd_lit1 _ _ (by go_wf)) (by simp; omega) (by simp; omega) ?_)
              intro v' w' o' b'
              have hbw' := (hbw.alloc hsz _).trans b'
              go_wp2
              go_roundw
              case rel => exact ⟨k + 1, m, by omega, HNX, by go_num, rfl, by rw [HM.out]; exact o', hbw'⟩
              case measure => simp [intOf]; omega
            · have hm1 : ((k : Int) % 4 == 3) = false := by simp; omega
              have hmx : m < xs.length := by have := HMM.out; have := HQ.out; omega
              obtain ⟨x, hb, HX, g1, x0, x1⟩ := hu.elem64 (j := m) hbw hmx
              have HM : Hid (depN xs (k + 1) = depN xs k ++ [x]) := Lib.hid (by rw [depN, if_neg hm, ← HMM.out, HX.out])
              have HNX : Hid (m + 1 = (k + 1) - (k + 1) / 4) := Lib.hid (by have := HMM.out; omega)
              clear hm
              go_wp2_with (at_builtin; refine wpList_app _ rfl (.tmp 31) (.tmp 36) 22 rfl w.heap.size 3 .i64 8 Try.underlying22 info64 (by omega) _ _ (depN xs k) [x] rfl rfl (hr.alloc _) (rd_lit1 _ _ (by go_wf)) (by simp; omega) (by simp; omega) ?_)
              intro v' w' o' b'
              have hbw' := (hbw.alloc hsz _).trans b'
              go_wp2
              go_roundw
              case rel => exact ⟨k + 1, m + 1, by omega, HNX, by go_num, by go_num, by rw [HM.out]; exact o', hbw'⟩
              case measure => simp [intOf]; omega
          · have hke : k = n := by omega
            subst hke
            go_wp2
            go_ret
            exact ⟨_, rfl, hr, hbw⟩
    · rw [show dep xs (n : Int) = [] from if_neg (fun z => hl (by have := z.2; simp at this; omega))]
      obtain ⟨a, c, rfl⟩ := hu.shape
      have hne : ((xs.length : Int) != ((n - n / 4 : Nat) : Int)) = true := by simp; omega
      obtain ⟨q, hq⟩ : ∃ q, q = n - n / 4 := ⟨_, rfl⟩
      have PL : ∀ W, Calls Try.prog 62 #[.int .i64 (n : Int)] W fun e w' => e = .returned (.int .i64 (q : Int)) ∧ W = w' := fun W => by rw [hq]; exact spec_PuncturedLength n W (by omega)
      have PLH := Lib.hid PL
      rw [← hq] at hne
      clear hq hl h hn PL
      go_enter Try.func37, Try.ntmps37
      go_wp2_with (first | (go_at_call 55; refine (spec_in_yes _ _ _ _ (by omega)).mono ?_; rintro e w' ⟨rfl, rfl⟩) | (go_at_call 62; refine (PLH.out _).mono ?_; rintro e w' ⟨rfl, rfl⟩))
      go_ret
      exact ⟨_, rfl, (own_lit0 w (Nat.le_refl _)).top, (Below.refl _ _).alloc (Nat.le_refl _) _⟩
  · rw [show dep xs n = [] from if_neg (fun z => h z.1)]
    obtain ⟨a, c, rfl⟩ := hu.shape
    have HH := Lib.hid h
    clear h
    go_enter Try.func37, Try.ntmps37
    go_wp2_with (go_at_call 55; refine (spec_in_no _ _ _ _ HH.out).mono ?_; rintro e w' ⟨rfl, rfl⟩)
    go_ret
    exact ⟨_, rfl, (own_lit0 w (Nat.le_refl _)).top, (Below.refl _ _).alloc (Nat.le_refl _) _⟩
set_option maxHeartbeats 1600000 in
theorem impl_Depuncture (u : Value) (xs : List Int) (n : Int) (w : World) (hu : Rd .i64 w u xs) (hn : -9223372036854775808 ≤ n ∧ n ≤ 9223372036854775807) (hx : xs.length ≤ 1073741824) :
    Calls Try.prog 38 #[u, .int .i64 n] w (Fresh .i64 3 (dep xs n) w) := by
  by_cases h : 0 ≤ n ∧ n ≤ 4000
  · obtain ⟨n, rfl⟩ := Int.eq_ofNat_of_zero_le h.1
    have h2 : n ≤ 4000 := by omega
    by_cases hl : xs.length = n - n / 4
    · rw [show dep xs (n : Int) = depN xs n from if_pos ⟨h, by rw [hl]; rfl⟩]
      have hne : ((xs.length : Int) != ((n - n / 4 : Nat) : Int)) = false := by simp; omega
      have hl1 : xs.length ≤ n - n / 4 := by omega
      have hl2 : n - n / 4 ≤ xs.length := by omega
      obtain ⟨q, hq⟩ : ∃ q, q = n - n / 4 := ⟨_, rfl⟩
      have PL : ∀ W, Calls Try.prog 63 #[.int .i64 (n : Int)] W fun e w' => e = .returned (.int .i64 (q : Int)) ∧ W = w' := fun W => by rw [hq]; exact impl_PuncturedLength n W (by omega)
      have PLH := Lib.hid PL
      rw [← hq] at hne hl1 hl2
      have HQ := Lib.hid hq
      clear hq hl h hn PL
      rcases hu.parts with ⟨h0, a, c, rfl⟩ | ⟨h0, b0, off0, c, rfl⟩
      · have hx0 : xs.length = 0 := by rw [h0]; rfl
        have hn0 : n ≤ 0 := by have := HQ.out; omega
        have hq0 : ((0 : Int) != (q : Int)) = false := by simp; omega
        clear hx0
        have hn1 : n = 0 := by omega
        subst hn1
        clear h0
        go_enter Try.func38, Try.ntmps38
        go_wp2_with (first | (go_at_call 56; refine (impl_in_yes _ _ _ _ (by omega)).mono ?_; rintro e w' ⟨rfl, rfl⟩) | (go_at_call 63; refine (PLH.out _).mono ?_; rintro e w' ⟨rfl, rfl⟩) | (at_make; refine wpList_mk _ rfl _ _ 22 rfl w.heap.size 3 .i64 8 Try.underlying22 info64 (by omega) rfl _ _ _ _ 0 rfl rfl rfl rfl (by omega) (Nat.le_refl _) ?_))
        intro w1 o1 b1 z1
        go_wp2
        go_rounds 1
        go_ret
        exact ⟨_, rfl, Own.top (by simpa [depN] using o1), b1⟩
      · go_enter Try.func38, Try.ntmps38
        go_wp2_with (first | (go_at_call 56; refine (impl_in_yes _ _ _ _ (by omega)).mono ?_; rintro e w' ⟨rfl, rfl⟩) | (go_at_call 63; refine (PLH.out _).mono ?_; rintro e w' ⟨rfl, rfl⟩) | (at_make; refine wpList_mk _ rfl _ _ 22 rfl w.heap.size 3 .i64 8 Try.underlying22 info64 (by omega) rfl _ _ _ _ n rfl rfl rfl rfl (by omega) (Nat.le_refl _) ?_))
        intro w1 o1 b1 z1
        clear z1
        go_wp2
        go_loopw [6, 23] (fun m i wr => ∃ k m' : Nat, k ≤ n ∧ Hid (m' = k - k / 4) ∧ i = .int .i64 k ∧ m = .int .i64 m' ∧ Own .i64 3 wr w.heap.size (w.heap.size + 1) (.slice (some ⟨w.heap.size, 0, none⟩) n n) (depN xs k ++ List.replicate (n - k) 0) ∧ Below w.heap.size w wr) (fun _ i _ => n - (intOf i).toNat)
        case atStart => exact ⟨0, 0, Nat.zero_le _, Lib.hid rfl, rfl, rfl, by simpa [depN] using o1, b1⟩
        case round =>
          obtain ⟨k, m, hk, HMM, rfl, rfl, hr, hbw⟩ := hrel
          have hsz := hbw.size
          have hm4 : m ≤ 4000 := by have := HMM.out; omega
          by_cases hlt : k < n
          · have g2 := hr.cell (j := k) (by rw [List.length_append, depN_len, List.length_replicate]; omega)
            obtain ⟨y, hy⟩ : ∃ y, y = (depN xs k ++ List.replicate (n - k) 0).getD k 0 := ⟨_, rfl⟩
            rw [← hy] at g2
            have g3 := hr.frozen k
            by_cases hm : k % 4 = 3
            · have hm1 : ((k : Int) % 4 == 3) = true := by simp; omega
              have HM : Hid (depN xs (k + 1) = depN xs k ++ [2]) := Lib.hid (by rw [depN, if_pos hm])
              have HNX : Hid (m = (k + 1) - (k + 1) / 4) := Lib.hid (by have := HMM.out; omega)
              have hst := hr.stored (j := k) (x := 2) (by go_wf)
              rw [fillF_set (depN_len xs k) hlt, ← HM.out] at hst
              clear hm hr hy o1
              go_wp2
              go_roundw
              case rel => exact ⟨k + 1, m, by omega, HNX, by go_num, rfl, hst.1, hbw.trans (hst.2.below (Nat.le_refl _) hbw.size)⟩
              case measure => simp [intOf]; omega
            · have hm1 : ((k : Int) % 4 == 3) = false := by simp; omega
              have hmx : m < xs.length := by have := HMM.out; have := HQ.out; omega
              obtain ⟨x, hb, HX, g1, x0, x1⟩ := hu.elem64 (j := m) hbw hmx
              have HM : Hid (depN xs (k + 1) = depN xs k ++ [x]) := Lib.hid (by rw [depN, if_neg hm, ← HMM.out, HX.out])
              have HNX : Hid (m + 1 = (k + 1) - (k + 1) / 4) := Lib.hid (by have := HMM.out; omega)
              have hst := hr.stored (j := k) (x := x) (by go_wf)
              rw [fillF_set (depN_len xs k) hlt, ← HM.out] at hst
              have hbne : b0 ≠ w.heap.size := by omega
              clear hm hr hy o1
              go_wp2
              go_roundw
              case rel => exact ⟨k + 1, m + 1, by omega, HNX, by go_num, by go_num, hst.1, hbw.trans (hst.2.below (Nat.le_refl _) hbw.size)⟩
              case measure => simp [intOf]; omega
          · have hke : k = n := by omega
            subst hke
            rw [Nat.sub_self, List.replicate_zero, List.append_nil] at hr
            go_wp2
            go_ret
            exact ⟨_, rfl, hr.top, hbw⟩
    · rw [show dep xs (n : Int) = [] from if_neg (fun z => hl (by have := z.2; simp at this; omega))]
      obtain ⟨a, c, rfl⟩ := hu.shape
      have hne : ((xs.length : Int) != ((n - n / 4 : Nat) : Int)) = true := by simp; omega
      obtain ⟨q, hq⟩ : ∃ q, q = n - n / 4 := ⟨_, rfl⟩
      have PL : ∀ W, Calls Try.prog 63 #[.int .i64 (n : Int)] W fun e w' => e = .returned (.int .i64 (q : Int)) ∧ W = w' := fun W => by rw [hq]; exact impl_PuncturedLength n W (by omega)
      have PLH := Lib.hid PL
      rw [← hq] at hne
      clear hq hl h hn PL
      go_enter Try.func38, Try.ntmps38
      go_wp2_with (first | (go_at_call 56; refine (impl_in_yes _ _ _ _ (by omega)).mono ?_; rintro e w' ⟨rfl, rfl⟩) | (go_at_call 63; refine (PLH.out _).mono ?_; rintro e w' ⟨rfl, rfl⟩))
      go_ret
      exact ⟨_, rfl, (own_lit0 w (Nat.le_refl _)).top, (Below.refl _ _).alloc (Nat.le_refl _) _⟩
  · rw [show dep xs n = [] from if_neg (fun z => h z.1)]
    obtain ⟨a, c, rfl⟩ := hu.shape
    have HH := Lib.hid h
    clear h
    go_enter Try.func38, Try.ntmps38
    go_wp2_with (go_at_call 56; refine (impl_in_no _ _ _ _ HH.out).mono ?_; rintro e w' ⟨rfl, rfl⟩)
    go_ret
    exact ⟨_, rfl, (own_lit0 w (Nat.le_refl _)).top, (Below.refl _ _).alloc (Nat.le_refl _) _⟩
end Go.Proofs.Ytgaoiljedfogjaa

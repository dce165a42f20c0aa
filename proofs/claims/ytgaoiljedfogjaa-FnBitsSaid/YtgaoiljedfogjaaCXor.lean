/- Contracts of XorBits (program and reference). -/
import Derived.Test.YtgaoiljedfogjaaCApp
import Derived.Test.YtgaoiljedfogjaaCInfo
import Derived.Test.YtgaoiljedfogjaaCLit
import Derived.Test.YtgaoiljedfogjaaCItb
import Derived.Test.YtgaoiljedfogjaaCHam
import Derived.Test.YtgaoiljedfogjaaCStep
import Derived.BigRegion
namespace Go.Proofs.Ytgaoiljedfogjaa
open Go.RowKit
set_option linter.unusedVariables false

theorem and1_int {a : Int} (h : -9223372036854775808 ≤ a ∧ a ≤ 9223372036854775807) : bits .and .i64 a 1 = a % 2 := by
  show IntKind.i64.wrap ((BitVec.ofInt 64 a &&& BitVec.ofInt 64 1).toNat : Int) = _
  rw [BitVec.toNat_and, BitVec.toNat_ofInt, show (BitVec.ofInt 64 1).toNat = 1 from rfl, Nat.and_one_is_mod, IntKind.wrap_i64]
  omega
theorem xor_mod2 (a b : Nat) : (a ^^^ b) % 2 = (a + b) % 2 := by
  have h := Nat.testBit_xor a b 0
  simp only [Nat.testBit_zero] at h
  rcases Nat.mod_two_eq_zero_or_one a with ha | ha <;> rcases Nat.mod_two_eq_zero_or_one b with hb | hb <;> rcases Nat.mod_two_eq_zero_or_one (a ^^^ b) with hc | hc <;> simp [ha, hb, hc] at h <;> omega
theorem xor_bd (a b : Int) : -9223372036854775808 ≤ bits .xor .i64 a b ∧ bits .xor .i64 a b ≤ 9223372036854775807 := by
  show -9223372036854775808 ≤ IntKind.i64.wrap ((BitVec.ofInt 64 a ^^^ BitVec.ofInt 64 b).toNat : Int) ∧ IntKind.i64.wrap ((BitVec.ofInt 64 a ^^^ BitVec.ofInt 64 b).toNat : Int) ≤ _
  rw [IntKind.wrap_i64]; omega
theorem xor_par (a b : Int) : bits .xor .i64 a b % 2 = (a + b) % 2 := by
  show IntKind.i64.wrap ((BitVec.ofInt 64 a ^^^ BitVec.ofInt 64 b).toNat : Int) % 2 = _
  have h := xor_mod2 (BitVec.ofInt 64 a).toNat (BitVec.ofInt 64 b).toNat
  rw [← BitVec.toNat_xor] at h
  rw [IntKind.wrap_i64]
  simp only [BitVec.toNat_ofInt] at h
  omega
theorem xor_small {p q : Int} (hp : 0 ≤ p ∧ p ≤ 1) (hq : 0 ≤ q ∧ q ≤ 1) : bits .xor .i64 p q = (p + q) % 2 := by
  rcases (show p = 0 ∨ p = 1 by omega) with rfl | rfl <;> rcases (show q = 0 ∨ q = 1 by omega) with rfl | rfl <;> decide +kernel
/-- The sums of the first k bits. -/
def xorN (xs ys : List Int) (k : Nat) : List Int := (List.range k).map fun i => (xs.getD i 0 + ys.getD i 0) % 2
theorem xorN_len (xs ys : List Int) (k : Nat) : (xorN xs ys k).length = k := by simp [xorN]
theorem xorN_succ (xs ys : List Int) (k : Nat) : xorN xs ys (k + 1) = xorN xs ys k ++ [(xs.getD k 0 + ys.getD k 0) % 2] := by simp [xorN, List.range_succ]
def xorB (xs ys : List Int) : List Int := xorN xs ys (mnI xs.length ys.length).toNat
theorem xorB_len (xs ys : List Int) : (xorB xs ys).length ≤ xs.length := by
  unfold xorB
  rw [xorN_len]
  have := @mm_bd xs.length ys.length
  omega

set_option maxHeartbeats 1600000 in
theorem impl_XorBits (u v : Value) (xs ys : List Int) (w : World) (hu : Rd .i64 w u xs) (hv : Rd .i64 w v ys) (hx : xs.length ≤ 1073741824) (hy : ys.length ≤ 1073741824) :
    Calls Try.prog 26 #[u, v] w (Fresh .i64 3 (xorB xs ys) w) := by
  obtain ⟨m0, m1, m2, m3, m4⟩ := @mm_bd xs.length ys.length
  obtain ⟨s, hs⟩ := Int.eq_ofNat_of_zero_le m0
  have HA : Hid (xorB xs ys = xorN xs ys s) := Lib.hid (by unfold xorB; rw [hs]; rfl)
  have hmn := mn_eq hs.symm
  have HS := Lib.hid hs
  rw [hs] at m2 m3
  clear hs m0 m1 m4
  have hmn' := Lib.hid hmn
  clear hmn
  have cMin := fun W => impl_Min (xs.length : Int) ys.length W
  rw [HS.out] at cMin
  have CMin := Lib.hid cMin
  clear cMin
  rcases (show (s = 0 ∨ (0 < s ∧ 0 < xs.length ∧ 0 < ys.length)) by omega) with h0 | ⟨h0, h1, h2⟩
  · subst h0
    obtain ⟨a, c, rfl⟩ := hu.shape
    obtain ⟨a', c', rfl⟩ := hv.shape
    go_enter Try.func26, Try.ntmps26
    go_wp2_with (first | (go_at_call 58; refine (CMin.out _).mono ?_; rintro e w' ⟨rfl, rfl⟩) | (at_make; refine wpList_mk _ rfl _ _ 22 rfl w.heap.size 3 .i64 8 Try.underlying22 info64 (by omega) rfl _ _ _ _ 0 rfl rfl rfl rfl (by omega) (Nat.le_refl _) ?_))
    intro w1 o1 b1 z1
    go_wp2
    go_rounds 1
    go_ret
    exact ⟨_, rfl, by rw [HA.out]; exact Own.top (by simpa [xorN] using o1), b1⟩
  · rcases hu.parts with ⟨h3, -⟩ | ⟨h3, b, off, c, rfl⟩
    · simp [h3] at h1
    rcases hv.parts with ⟨h4, -⟩ | ⟨h4, b', off', c', rfl⟩
    · simp [h4] at h2
    clear h3 h4
    go_enter Try.func26, Try.ntmps26
    go_wp2_with (first | (go_at_call 58; refine (CMin.out _).mono ?_; rintro e w' ⟨rfl, rfl⟩) | (at_make; refine wpList_mk _ rfl _ _ 22 rfl w.heap.size 3 .i64 8 Try.underlying22 info64 (by omega) rfl _ _ _ _ s rfl rfl rfl rfl (by omega) (Nat.le_refl _) ?_))
    intro w1 o1 b1 z1
    clear z1
    go_wp2
    go_loopw [7] (fun i wr => ∃ k : Nat, k ≤ s ∧ i = .int .i64 k ∧ Own .i64 3 wr w.heap.size (w.heap.size + 1) (.slice (some ⟨w.heap.size, 0, none⟩) s s) (xorN xs ys k ++ List.replicate (s - k) 0) ∧ Below w.heap.size w wr) (fun i _ => s - (intOf i).toNat)
    case atStart => exact ⟨0, Nat.zero_le _, rfl, by simpa [xorN] using o1, b1⟩
    case round =>
      obtain ⟨k, hk, rfl, hr, hbw⟩ := hrel
      by_cases hlt : k < s
      · obtain ⟨x, hb, HX, g1, x0, x1⟩ := hu.elem64 (j := k) hbw (by omega)
        obtain ⟨y, hb', HY, g2, y0, y1⟩ := hv.elem64 (j := k) hbw (by omega)
        have hkx : k < xs.length := by omega
        have hky : k < ys.length := by omega
        have HN := Lib.hid (xorN_succ xs ys k)
        rw [HX.out, HY.out] at HN
        have e1 := and1_int ⟨x0, x1⟩
        have e2 := and1_int ⟨y0, y1⟩
        obtain ⟨p, hp⟩ : ∃ p, p = x % 2 := ⟨_, rfl⟩
        obtain ⟨q, hq⟩ : ∃ q, q = y % 2 := ⟨_, rfl⟩
        have hp1 : 0 ≤ p ∧ p ≤ 1 := by omega
        have hq1 : 0 ≤ q ∧ q ≤ 1 := by omega
        have e3 := xor_small hp1 hq1
        have hpq : (p + q) % 2 = (x + y) % 2 := by omega
        obtain ⟨r, hr1⟩ : ∃ r, r = (x + y) % 2 := ⟨_, rfl⟩
        have hr2 : 0 ≤ r ∧ r ≤ 1 := by omega
        rw [hpq, ← hr1] at e3
        rw [← hp] at e1
        rw [← hq] at e2
        rw [← hr1] at HN
        have hst := hr.stored (j := k) (x := r) (by go_wf)
        rw [fillF_set (xorN_len _ _ k) hlt, ← HN.out] at hst
        have g3 := hr.cell (j := k) (by rw [List.length_append, xorN_len, List.length_replicate]; omega)
        obtain ⟨z, hz⟩ : ∃ z, z = (xorN xs ys k ++ List.replicate (s - k) 0).getD k 0 := ⟨_, rfl⟩
        rw [← hz] at g3
        have g4 := hr.frozen k
        obtain ⟨hp1a, hp1b⟩ := hp1
        obtain ⟨hq1a, hq1b⟩ := hq1
        obtain ⟨hr2a, hr2b⟩ := hr2
        clear hr hz hp hq hpq hr1 o1
        have hne : b ≠ w.heap.size := by omega
        have hne' : b' ≠ w.heap.size := by omega
        go_wp2_with fail
        go_region
        all_goals
          go_wp2
          go_roundw
          case rel => exact ⟨k + 1, by omega, by go_num, hst.1, (hbw.trans (hst.2.below (Nat.le_refl _) hbw.size)).drew⟩
          case measure => simp [intOf]; omega
      · have hke : k = s := by omega
        subst hke
        rw [Nat.sub_self, List.replicate_zero, List.append_nil] at hr
        go_wp2
        go_ret
        exact ⟨_, rfl, by rw [HA.out]; exact hr.top, hbw⟩
set_option maxHeartbeats 1600000 in
theorem spec_XorBits (u v : Value) (xs ys : List Int) (w : World) (hu : Rd .i64 w u xs) (hv : Rd .i64 w v ys) (hx : xs.length ≤ 1073741824) (hy : ys.length ≤ 1073741824) :
    Calls Try.prog 25 #[u, v] w (Fresh .i64 3 (xorB xs ys) w) := by
  obtain ⟨m0, m1, m2, m3, m4⟩ := @mm_bd xs.length ys.length
  obtain ⟨s, hs⟩ := Int.eq_ofNat_of_zero_le m0
  have HA : Hid (xorB xs ys = xorN xs ys s) := Lib.hid (by unfold xorB; rw [hs]; rfl)
  have hmn := mn_eq hs.symm
  have HS := Lib.hid hs
  rw [hs] at m2 m3
  clear hs m0 m1 m4
  have hmn' := Lib.hid hmn
  clear hmn
  rcases (show (s = 0 ∨ (0 < s ∧ 0 < xs.length ∧ 0 < ys.length)) by omega) with h0 | ⟨h0, h1, h2⟩
  · subst h0
    obtain ⟨a, c, rfl⟩ := hu.shape
    obtain ⟨a', c', rfl⟩ := hv.shape
    have h5 : xs.length ≤ 0 ∨ (0 < xs.length ∧ ys.length ≤ 0) := by have := hmn'.out; omega
    rcases h5 with h5 | ⟨h5, h6⟩
    all_goals
      go_enter Try.func25, Try.ntmps25
      go_wp2
      refine wp_loop_rounds 1 ?_
      rw [rounds_succ]
      go_wp2
      go_ret
      exact ⟨_, rfl, by rw [HA.out]; exact (own_lit0 w (Nat.le_refl _)).top, (Below.refl _ _).alloc (Nat.le_refl _) _⟩
  · rcases hu.parts with ⟨h3, -⟩ | ⟨h3, b, off, c, rfl⟩
    · simp [h3] at h1
    rcases hv.parts with ⟨h4, -⟩ | ⟨h4, b', off', c', rfl⟩
    · simp [h4] at h2
    clear h3 h4
    go_enter Try.func25, Try.ntmps25
    go_wp2
    go_loopw [5, 6] (fun v i wr => ∃ k : Nat, k ≤ s ∧ i = .int .i64 k ∧ Own .i64 3 wr w.heap.size wr.heap.size v (xorN xs ys k) ∧ Below w.heap.size w wr) (fun _ i _ => s - (intOf i).toNat)
    case atStart => exact ⟨0, Nat.zero_le _, rfl, (own_lit0 w (Nat.le_refl _)).top, (Below.refl _ _).alloc (Nat.le_refl _) _⟩
    case round =>
      obtain ⟨k, hk, rfl, hr, hbw⟩ := hrel
      have hl2 : (xorN xs ys k).length ≤ 1073741824 := by rw [xorN_len]; omega
      by_cases hlt : k < s
      · obtain ⟨x, hb, HX, g1, x0, x1⟩ := hu.elem64 (j := k) hbw (by omega)
        obtain ⟨y, hb', HY, g2, y0, y1⟩ := hv.elem64 (j := k) hbw (by omega)
        have hkx : k < xs.length := by omega
        have hky : k < ys.length := by omega
        have HN := Lib.hid (xorN_succ xs ys k)
        rw [HX.out, HY.out] at HN
        have e1 : ∃ c, Hid (c = bits .xor .i64 x y) ∧ bits .xor .i64 x y = c := ⟨_, Lib.hid rfl, rfl⟩
        obtain ⟨c1, hc1, e1⟩ := e1
        have e2 : bits .and .i64 c1 1 = (x + y) % 2 := by rw [hc1.out, and1_int (xor_bd x y), xor_par]
        obtain ⟨r, hr1⟩ : ∃ r, r = (x + y) % 2 := ⟨_, rfl⟩
        have hr2a : 0 ≤ r := by omega
        have hr2b : r ≤ 1 := by omega
        rw [← hr1] at HN e2
        clear hr1
        have hsz := hbw.size
        go_wp2_with fail
        go_region_law ((refine step_app rfl (.tmp 20) (.tmp 31) 22 rfl w.heap.size 3 .i64 8 Try.underlying22 info64 (by omega) _ _ (xorN xs ys k) [r] rfl rfl (by exact hr.alloc _) (rd_lit1 _ _ (by go_wf)) (by simp) (by simp; omega) (by simp; omega) ?_; intro v' w' o' b'))
        all_goals
          have hbw2 := (hbw.drew.alloc (by exact hsz) _).trans b'
          go_wp2
          go_roundw
          case rel => exact ⟨k + 1, by omega, by go_num, by rw [HN.out]; exact o', hbw2⟩
          case measure => simp [intOf]; omega
      · have hke : k = s := by omega
        subst hke
        by_cases hkx : k < xs.length
        · have hky : ys.length ≤ k := by have := hmn'.out; omega
          go_wp2
          go_ret
          exact ⟨_, rfl, by rw [HA.out]; exact hr, hbw⟩
        · go_wp2
          go_ret
          exact ⟨_, rfl, by rw [HA.out]; exact hr, hbw⟩
end Go.Proofs.Ytgaoiljedfogjaa

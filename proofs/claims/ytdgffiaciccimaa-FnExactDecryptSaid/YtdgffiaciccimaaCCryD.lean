/- The reference's Decrypt. -/
import Derived.Test.YtdgffiaciccimaaCCry
namespace Go.Proofs.Ytdgffiaciccimaa
open Go.RowKit
set_option linter.unusedVariables false

set_option maxHeartbeats 3200000 in
theorem spec_Decrypt (key : Int) (u : Value) (xs : List Int) (w : World) (hk : -9223372036854775808 ≤ key ∧ key ≤ 9223372036854775807) (hu : Rd .u8 w u xs) (hn : xs.length ≤ 1073741824) :
    Calls Try.prog 12 #[.int .i64 key, u] w (Fresh .u8 5 (cry (-1) key xs) w) := by
  rcases hu.parts with ⟨rfl, a, c, rfl⟩ | ⟨h0, b, off, c, rfl⟩
  · go_enter Try.func12, Try.ntmps12
    go_wp2
    go_rounds 1
    go_ret
    exact ⟨_, rfl, (own_lit0 w (Nat.le_refl _)).top, (Below.refl _ _).alloc (Nat.le_refl _) _⟩
  · go_enter Try.func12, Try.ntmps12
    go_wp2
    go_loopw [5, 6] (fun v i wr => ∃ k : Nat, k ≤ xs.length ∧ i = .int .i64 k ∧ Own .u8 5 wr w.heap.size wr.heap.size v (cryN (-1) key xs k) ∧ Below w.heap.size w wr) (fun _ i _ => xs.length - (intOf i).toNat)
    case atStart => exact ⟨0, Nat.zero_le _, rfl, (own_lit0 w (Nat.le_refl _)).top, (Below.refl _ _).alloc (Nat.le_refl _) _⟩
    case round =>
      obtain ⟨k, hkl, rfl, hr, hbw⟩ := hrel
      have hl2 : (cryN (-1) key xs k).length ≤ 1073741824 := by rw [cryN_len]; omega
      by_cases hlt : k < xs.length
      · obtain ⟨x, hb, HX, g1, x0, x1⟩ := hu.elem8 (j := k) hbw hlt
        have hbx : b < w.heap.size := hb
        have HN := Lib.hid (cryN_succ (-1) key xs k)
        rw [HX.out] at HN
        have ck := fun W v hv => spec_KeyedHash key v [(k : Int)] W hk hv (by simp)
        obtain ⟨h1, h2⟩ := khsh_bd key [(k : Int)]
        obtain ⟨h, hh⟩ : ∃ h, h = khsh key [(k : Int)] := ⟨_, rfl⟩
        rw [← hh] at ck h1 h2 HN
        clear hh
        have CK := Lib.hid ck
        have e0 : (x + (-1) * h) % 256 = (x - h % 256) % 256 := by omega
        rw [e0] at HN
        obtain ⟨y, hy⟩ : ∃ y, y = (x - h % 256) % 256 := ⟨_, rfl⟩
        have hy1 : 0 ≤ y ∧ y ≤ 255 := by omega
        rw [← hy] at HN
        skip
        have HY := Lib.hid hy
        have hsz := hbw.size
        have HO : ∀ W, Below ((wr.alloc (.cells #[.int .i64 (k : Int)] 3)).heap.size) (wr.alloc (.cells #[.int .i64 (k : Int)] 3)) W → Own .u8 5 W w.heap.size wr.heap.size _ (cryN (-1) key xs k) := fun W hW => (hr.alloc _).keep hW (by simp)
        have HC : ∀ W, Below ((wr.alloc (.cells #[.int .i64 (k : Int)] 3)).heap.size) (wr.alloc (.cells #[.int .i64 (k : Int)] 3)) W → W.cell? ⟨b, off + k, none⟩ = some (.int .u8 x) := fun W hW => by
          have h3 : Below wr.heap.size wr W := ((Below.refl _ _).alloc (Nat.le_refl _) _).trans (hW.mono (by simp))
          rw [h3.cell (show b < wr.heap.size by omega)]; exact g1
        have HB : ∀ W, Below ((wr.alloc (.cells #[.int .i64 (k : Int)] 3)).heap.size) (wr.alloc (.cells #[.int .i64 (k : Int)] 3)) W → Below w.heap.size w W := fun W hW => (hbw.alloc hsz _).trans (hW.mono (by simp; omega))
        have g1b : (wr.alloc (.cells #[.int .i64 (k : Int)] 3)).cell? ⟨b, off + k, none⟩ = some (.int .u8 x) := HC _ (Below.refl _ _)
        have HO' := Lib.hid HO
        have HC' := Lib.hid HC
        have HB' := Lib.hid HB
        have hwy : (Lit.int .u8 y).wf = true := WalkArith.wf_u8 hy1
        have hwk : (Lit.int .i64 (k : Int)).wf = true := WalkArith.wf_i64 (by omega)
        have hlen1 : (cryN (-1) key xs k).length + [y].length ≤ 1099511627776 := by simp; omega
        have a1 : IntKind.i64.wrap x = x := IntWalk.i64_in _ (by omega)
        have a2' : h.tmod 256 = h % 256 := Int.tmod_eq_emod_of_nonneg h1
        obtain ⟨r, hr1⟩ : ∃ r, r = h % 256 := ⟨_, rfl⟩
        have hr2 : 0 ≤ r ∧ r ≤ 255 := by omega
        have a2 : h.tmod 256 = r := by rw [a2', hr1]
        obtain ⟨s, hs⟩ : ∃ s, s = x - r := ⟨_, rfl⟩
        have a3 : IntKind.i64.wrap (x - r) = s := by rw [← hs]; exact IntWalk.i64_in _ (by omega)
        have a5 : IntKind.u8.wrap y = y := by rw [IntKind.wrap_u8]; omega
        have cm : ∀ W, Calls Try.prog 36 #[.int .i64 s, .int .i64 256] W fun e w' => e = .returned (.int .i64 y) ∧ W = w' := fun W => by
          have := spec_Mod s 256 W (by omega) (by omega)
          rwa [modI_in (by omega) (by omega), show s % 256 = y by omega] at this
        have CM := Lib.hid cm
        clear cm
        clear ck e0 hy HO HC HB hr a2' hr1 hs hy1 hr2
        go_wp2_with fail
        go_region_law ((first | (refine step_app rfl (.tmp 14) (.tmp 28) 24 rfl w.heap.size 5 .u8 1 Try.underlying24 info8 (by decide) _ _ (cryN (-1) key xs k) [y] rfl rfl (by exact o2.alloc _) (rd_lit1 _ _ hwy) (Nat.zero_lt_one) hlen1 (Nat.le_trans hs2 (by simp)) ?_; intro v' w' o' b') | (go_simp; go_at_call 36; refine (CM.out _).mono ?_; rintro e w' ⟨rfl, rfl⟩) | (go_simp; go_at_call 40; refine (CK.out _ _ (by exact rd_lit1 (E := 3) wr _ hwk)).mono ?_; rintro e w2 ⟨rfl, b2⟩; have b3 := below_undrew b2; have c2 := HC'.out w2 b3; have o2 := HO'.out w2 b3; have hb2 := HB'.out w2 b3; have hs2 := hb2.size)))
        clear a1 a2 a3 a5 CM
        all_goals
          have hbw2 := (hb2.alloc (by exact hs2) _).trans b'
          go_wp2
          go_roundw
          case rel => exact ⟨k + 1, by omega, by go_num, by rw [HN.out]; exact o', hbw2⟩
          case measure => simp [intOf]; omega
      · have hke : k = xs.length := by omega
        subst hke
        go_wp2
        go_ret
        exact ⟨_, rfl, hr, hbw⟩
end Go.Proofs.Ytdgffiaciccimaa

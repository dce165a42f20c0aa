/- Contracts of Encrypt and Decrypt (program and reference). -/
import Derived.Test.YtdgffiaciccimaaCHash
import Derived.Test.YtdgffiaciccimaaCStep
import Derived.Test.YtdgffiaciccimaaCLit
namespace Go.Proofs.Ytdgffiaciccimaa
open Go.RowKit
set_option linter.unusedVariables false

/-- The first k bytes, each moved by the hash of its place. -/
def cryN (s : Int) (key : Int) (xs : List Int) (k : Nat) : List Int := (List.range k).map fun i : Nat => (xs.getD i 0 + s * khsh key [(i : Int)]) % 256
def cry (s : Int) (key : Int) (xs : List Int) : List Int := cryN s key xs xs.length
theorem cryN_len (s key : Int) (xs : List Int) (k : Nat) : (cryN s key xs k).length = k := by simp [cryN]
theorem cry_len (s key : Int) (xs : List Int) : (cry s key xs).length = xs.length := cryN_len _ _ _ _
theorem cryN_succ (s key : Int) (xs : List Int) (k : Nat) : cryN s key xs (k + 1) = cryN s key xs k ++ [(xs.getD k 0 + s * khsh key [(k : Int)]) % 256] := by simp [cryN, List.range_succ]
theorem fillK_set {L : List Int} {c k : Nat} {x : Int} (hL : L.length = k) (hk : k < c) : (L ++ List.replicate (c - k) 0).set k x = (L ++ [x]) ++ List.replicate (c - (k + 1)) 0 := by
  rw [List.set_append_right _ _ (by omega), hL, Nat.sub_self, show c - k = (c - (k + 1)) + 1 by omega, List.replicate_succ, List.set_cons_zero]
  simp
theorem below_undrew {B : Nat} {w w2 : World} (h : Below B w.drew w2) : Below B w w2 := ⟨h.os, h.tape, h.output, h.size, h.block⟩

set_option maxHeartbeats 1600000 in
theorem impl_Encrypt (key : Int) (u : Value) (xs : List Int) (w : World) (hk : -9223372036854775808 ≤ key ∧ key ≤ 9223372036854775807) (hu : Rd .u8 w u xs) (hn : xs.length ≤ 1073741824) :
    Calls Try.prog 19 #[.int .i64 key, u] w (Fresh .u8 5 (cry 1 key xs) w) := by
  rcases hu.parts with ⟨rfl, a, c, rfl⟩ | ⟨h0, b, off, c, rfl⟩
  · go_enter Try.func19, Try.ntmps19
    go_wp2_with (at_make; refine wpList_mk _ rfl _ _ 24 rfl w.heap.size 5 .u8 1 Try.underlying24 info8 (by omega) rfl _ _ _ _ 0 rfl rfl rfl rfl (by omega) (Nat.le_refl _) ?_)
    intro w1 o1 b1 z1
    go_wp2
    go_rounds 1
    go_ret
    exact ⟨_, rfl, o1.top, b1⟩
  · go_enter Try.func19, Try.ntmps19
    go_wp2_with (at_make; refine wpList_mk _ rfl _ _ 24 rfl w.heap.size 5 .u8 1 Try.underlying24 info8 (by omega) rfl _ _ _ _ xs.length rfl rfl rfl rfl (by omega) (Nat.le_refl _) ?_)
    intro w1 o1 b1 z1
    clear z1
    go_wp2
    go_loopw [13] (fun i wr => ∃ k : Nat, k ≤ xs.length ∧ i = .int .i64 k ∧ Own .u8 5 wr w.heap.size (w.heap.size + 1) (.slice (some ⟨w.heap.size, 0, none⟩) xs.length xs.length) (cryN 1 key xs k ++ List.replicate (xs.length - k) 0) ∧ Below w.heap.size w wr) (fun i _ => xs.length - (intOf i).toNat)
    case atStart => exact ⟨0, Nat.zero_le _, rfl, by simpa [cryN] using o1, b1⟩
    case round =>
      obtain ⟨k, hkl, rfl, hr, hbw⟩ := hrel
      by_cases hlt : k < xs.length
      · obtain ⟨x, hb, HX, g1, x0, x1⟩ := hu.elem8 (j := k) hbw hlt
        have HN := Lib.hid (cryN_succ 1 key xs k)
        rw [HX.out] at HN
        have ck := fun W v hv => impl_KeyedHash key v [(k : Int)] W hk hv (by simp)
        obtain ⟨h1, h2⟩ := khsh_bd key [(k : Int)]
        obtain ⟨h, hh⟩ : ∃ h, h = khsh key [(k : Int)] := ⟨_, rfl⟩
        rw [← hh] at ck h1 h2 HN
        clear hh
        have CK := Lib.hid ck
        have e0 : (x + 1 * h) % 256 = (x + h) % 256 := by omega
        rw [e0] at HN
        obtain ⟨y, hy⟩ : ∃ y, y = (x + h) % 256 := ⟨_, rfl⟩
        have hy1 : 0 ≤ y ∧ y ≤ 255 := by omega
        rw [← hy] at HN
        have hy2 : (x + h) % 256 = y := hy.symm
        have HY := Lib.hid hy
        have hg := hr.blk
        clear ck e0 hy o1
        go_wp2_with fail
        refine (CK.out _ _ (rd_lit1 _ _ (by go_wf))).mono ?_
        rintro e w2 ⟨rfl, b2⟩
        have b2' : Below wr.heap.size wr w2 := ((Below.refl _ _).alloc (Nat.le_refl _) _).trans (b2.mono (by simp))
        have hbw2 := hbw.trans (b2'.mono hbw.size)
        have o2 := hr.keep b2' (by omega)
        have hst := o2.stored (j := k) (x := y) (by go_wf)
        rw [fillK_set (cryN_len _ _ _ k) hlt, ← HN.out] at hst
        have g2 := o2.cell (j := k) (by rw [List.length_append, cryN_len, List.length_replicate]; omega)
        obtain ⟨z, hz⟩ : ∃ z, z = (cryN 1 key xs k ++ List.replicate (xs.length - k) 0).getD k 0 := ⟨_, rfl⟩
        rw [← hz] at g2
        have g3 := o2.frozen k
        clear hr hz o2 b2 g1 hg
        go_wp2
        go_roundw
        case rel => exact ⟨k + 1, by omega, by go_num, hst.1, hbw2.trans (hst.2.below (Nat.le_refl _) hbw2.size)⟩
        case measure => simp [intOf]; omega
      · have hke : k = xs.length := by omega
        subst hke
        rw [Nat.sub_self, List.replicate_zero, List.append_nil] at hr
        go_wp2
        go_ret
        exact ⟨_, rfl, hr.top, hbw⟩
set_option maxHeartbeats 1600000 in
theorem impl_Decrypt (key : Int) (u : Value) (xs : List Int) (w : World) (hk : -9223372036854775808 ≤ key ∧ key ≤ 9223372036854775807) (hu : Rd .u8 w u xs) (hn : xs.length ≤ 1073741824) :
    Calls Try.prog 14 #[.int .i64 key, u] w (Fresh .u8 5 (cry (-1) key xs) w) := by
  rcases hu.parts with ⟨rfl, a, c, rfl⟩ | ⟨h0, b, off, c, rfl⟩
  · go_enter Try.func14, Try.ntmps14
    go_wp2_with (at_make; refine wpList_mk _ rfl _ _ 24 rfl w.heap.size 5 .u8 1 Try.underlying24 info8 (by omega) rfl _ _ _ _ 0 rfl rfl rfl rfl (by omega) (Nat.le_refl _) ?_)
    intro w1 o1 b1 z1
    go_wp2
    go_rounds 1
    go_ret
    exact ⟨_, rfl, o1.top, b1⟩
  · go_enter Try.func14, Try.ntmps14
    go_wp2_with (at_make; refine wpList_mk _ rfl _ _ 24 rfl w.heap.size 5 .u8 1 Try.underlying24 info8 (by omega) rfl _ _ _ _ xs.length rfl rfl rfl rfl (by omega) (Nat.le_refl _) ?_)
    intro w1 o1 b1 z1
    clear z1
    go_wp2
    go_loopw [13] (fun i wr => ∃ k : Nat, k ≤ xs.length ∧ i = .int .i64 k ∧ Own .u8 5 wr w.heap.size (w.heap.size + 1) (.slice (some ⟨w.heap.size, 0, none⟩) xs.length xs.length) (cryN (-1) key xs k ++ List.replicate (xs.length - k) 0) ∧ Below w.heap.size w wr) (fun i _ => xs.length - (intOf i).toNat)
    case atStart => exact ⟨0, Nat.zero_le _, rfl, by simpa [cryN] using o1, b1⟩
    case round =>
      obtain ⟨k, hkl, rfl, hr, hbw⟩ := hrel
      by_cases hlt : k < xs.length
      · obtain ⟨x, hb, HX, g1, x0, x1⟩ := hu.elem8 (j := k) hbw hlt
        have HN := Lib.hid (cryN_succ (-1) key xs k)
        rw [HX.out] at HN
        have ck := fun W v hv => impl_KeyedHash key v [(k : Int)] W hk hv (by simp)
        obtain ⟨h1, h2⟩ := khsh_bd key [(k : Int)]
        obtain ⟨h, hh⟩ : ∃ h, h = khsh key [(k : Int)] := ⟨_, rfl⟩
        rw [← hh] at ck h1 h2 HN
        clear hh
        have CK := Lib.hid ck
        have e0 : (x + (-1) * h) % 256 = (x - h) % 256 := by omega
        rw [e0] at HN
        obtain ⟨y, hy⟩ : ∃ y, y = (x - h) % 256 := ⟨_, rfl⟩
        have hy1 : 0 ≤ y ∧ y ≤ 255 := by omega
        rw [← hy] at HN
        have cm : ∀ W, Calls Try.prog 44 #[.int .i64 (x - h), .int .i64 256] W fun e w' => e = .returned (.int .i64 y) ∧ W = w' := fun W => by
          have := impl_Mod (x - h) 256 W (by omega) (by omega)
          rwa [modI_in (by omega) (by omega), ← hy] at this
        have CM := Lib.hid cm
        clear cm
        have HY := Lib.hid hy
        have hg := hr.blk
        clear ck e0 hy o1
        go_wp2_with fail
        refine (CK.out _ _ (rd_lit1 _ _ (by go_wf))).mono ?_
        rintro e w2 ⟨rfl, b2⟩
        have b2' : Below wr.heap.size wr w2 := ((Below.refl _ _).alloc (Nat.le_refl _) _).trans (b2.mono (by simp))
        have hbw2 := hbw.trans (b2'.mono hbw.size)
        have o2 := hr.keep b2' (by omega)
        have hst := o2.stored (j := k) (x := y) (by go_wf)
        rw [fillK_set (cryN_len _ _ _ k) hlt, ← HN.out] at hst
        have g2 := o2.cell (j := k) (by rw [List.length_append, cryN_len, List.length_replicate]; omega)
        obtain ⟨z, hz⟩ : ∃ z, z = (cryN (-1) key xs k ++ List.replicate (xs.length - k) 0).getD k 0 := ⟨_, rfl⟩
        rw [← hz] at g2
        have g3 := o2.frozen k
        clear hr hz o2 b2 g1 hg
        go_wp2_with (go_at_call 44; refine (CM.out _).mono ?_; rintro e w' ⟨rfl, rfl⟩)
        go_roundw
        case rel => exact ⟨k + 1, by omega, by go_num, hst.1, hbw2.trans (hst.2.below (Nat.le_refl _) hbw2.size)⟩
        case measure => simp [intOf]; omega
      · have hke : k = xs.length := by omega
        subst hke
        rw [Nat.sub_self, List.replicate_zero, List.append_nil] at hr
        go_wp2
        go_ret
        exact ⟨_, rfl, hr.top, hbw⟩
end Go.Proofs.Ytdgffiaciccimaa

/- Contracts of copyBytes, copyInts and AppendCrc (program and reference). -/
import Derived.Test.YtgaoiljedfogjaaCApp
import Derived.Test.YtgaoiljedfogjaaCInfo
import Derived.Test.YtgaoiljedfogjaaCLit
import Derived.Test.YtgaoiljedfogjaaCCrc
namespace Go.Proofs.Ytgaoiljedfogjaa
open Go.RowKit
set_option linter.unusedVariables false

theorem impl_copyBytes (u : Value) (xs : List Int) (w : World) (hu : Rd .u8 w u xs) (hn : xs.length ≤ 1073741824) :
    Calls Try.prog 61 #[u] w (Fresh .u8 5 xs w) := by
  obtain ⟨a, c, rfl⟩ := hu.shape
  go_enter Try.func61, Try.ntmps61
  go_wp2_with (at_make; refine wpList_mk _ rfl _ _ 31 rfl w.heap.size 5 .u8 1 Try.underlying31 info8 (by omega) rfl _ _ _ _ xs.length rfl rfl rfl rfl (by omega) (Nat.le_refl _) ?_)
  intro w1 o1 b1 z1
  have r1 := hu.keep b1
  go_wp2_with ((with_reducible show wpList _ _ _ _ _ _); refine wpList_cpy (o := ⟨some 9, _, _, _, _, _⟩) _ rfl (.tmp 7) (.tmp 8) 31 rfl 5 .u8 1 Try.underlying31 info8 _ xs _ rfl rfl o1 r1 rfl ?_)
  intro w2 o2 b2
  clear r1 o1 z1
  go_wp2
  go_ret
  exact ⟨_, rfl, o2.top, b1.trans b2⟩
theorem impl_copyInts (u : Value) (xs : List Int) (w : World) (hu : Rd .i64 w u xs) (hn : xs.length ≤ 1073741824) :
    Calls Try.prog 66 #[u] w (Fresh .i64 3 xs w) := by
  obtain ⟨a, c, rfl⟩ := hu.shape
  go_enter Try.func66, Try.ntmps66
  go_wp2_with (at_make; refine wpList_mk _ rfl _ _ 22 rfl w.heap.size 3 .i64 8 Try.underlying22 info64 (by omega) rfl _ _ _ _ xs.length rfl rfl rfl rfl (by omega) (Nat.le_refl _) ?_)
  intro w1 o1 b1 z1
  have r1 := hu.keep b1
  go_wp2_with ((with_reducible show wpList _ _ _ _ _ _); refine wpList_cpy (o := ⟨some 9, _, _, _, _, _⟩) _ rfl (.tmp 7) (.tmp 8) 22 rfl 3 .i64 8 Try.underlying22 info64 _ xs _ rfl rfl o1 r1 rfl ?_)
  intro w2 o2 b2
  clear r1 o1 z1
  go_wp2
  go_ret
  exact ⟨_, rfl, o2.top, b1.trans b2⟩

/-- Data with its checksum behind it. -/
def appCrc (xs : List Int) : List Int := xs ++ [((crc xs : Nat) : Int) % 256, ((crc xs : Nat) : Int) / 256]

set_option maxHeartbeats 800000 in
theorem impl_AppendCrc (u : Value) (xs : List Int) (w : World) (hu : Rd .u8 w u xs) (hn : xs.length ≤ 1073741824) :
    Calls Try.prog 35 #[u] w (Fresh .u8 5 (appCrc xs) w) := by
  have hc := crc_bd hu.wf
  have HA : Hid (appCrc xs = xs ++ [((crc xs : Nat) : Int) % 256, ((crc xs : Nat) : Int) / 256]) := Lib.hid rfl
  have cc := fun v W hv => impl_Crc16 v xs W hv
  obtain ⟨m, hm⟩ : ∃ m, m = crc xs := ⟨_, rfl⟩
  rw [← hm] at hc HA cc
  have CC := Lib.hid cc
  clear hm cc
  go_enter Try.func35, Try.ntmps35
  go_wp2_with fail
  refine (CC.out _ _ hu).mono ?_
  rintro e w1 ⟨rfl, b1⟩
  have r1 := hu.keep b1
  go_wp2_with fail
  refine (impl_copyBytes _ _ _ r1 hn).mono ?_
  rintro e w2 ⟨v, rfl, o2, b2⟩
  have b2' := below_next b1 b2
  have s1 := b1.size
  have s2 := b2.size
  clear r1 b1 b2
  go_wp2_with (at_builtin; refine wpList_app _ rfl (.tmp 9) (.tmp 16) 31 rfl w.heap.size 5 .u8 1 Try.underlying31 info8 (by omega) _ _ xs [_, _] rfl rfl ((o2.mono s1 (Nat.le_refl _)).alloc _) (rd_lit2 _ _ _ (by go_wf) (by go_wf)) (by simp; omega) (by simp; omega) ?_)
  intro v3 w3 o3 b3
  have b3' := (b2'.alloc (by omega) _).trans b3
  go_wp2
  go_ret
  exact ⟨_, rfl, by rw [HA.out]; exact o3, b3'⟩
set_option maxHeartbeats 800000 in
theorem spec_AppendCrc (u : Value) (xs : List Int) (w : World) (hu : Rd .u8 w u xs) (hn : xs.length ≤ 1073741824) :
    Calls Try.prog 34 #[u] w (Fresh .u8 5 (appCrc xs) w) := by
  have hc := crc_bd hu.wf
  have HA : Hid (appCrc xs = xs ++ [((crc xs : Nat) : Int) % 256, ((crc xs : Nat) : Int) / 256]) := Lib.hid rfl
  have cc := fun v W hv => spec_Crc16 v xs W hv
  obtain ⟨m, hm⟩ : ∃ m, m = crc xs := ⟨_, rfl⟩
  rw [← hm] at hc HA cc
  have CC := Lib.hid cc
  clear hm cc
  go_enter Try.func34, Try.ntmps34
  go_wp2_with fail
  refine (CC.out _ _ hu).mono ?_
  rintro e w1 ⟨rfl, b1⟩
  have s1 := b1.size
  have b1' : Below w.heap.size w (w1.alloc (.cells #[] 5)) := b1.alloc s1 _
  have r1 := hu.keep b1'
  go_wp2_with (at_builtin; refine wpList_app _ rfl (.tmp 6) (.tmp 7) 31 rfl w.heap.size 5 .u8 1 Try.underlying31 info8 (by omega) _ _ [] xs rfl rfl (own_lit0 _ s1) r1 (by simp; omega) (by simp; omega) ?_)
  intro v2 w2 o2 b2
  have b2' := b1'.trans b2
  have s2 := b2'.size
  clear r1 b1' b1 b2
  go_wp2_with (at_builtin; refine wpList_app _ rfl (.tmp 8) (.tmp 14) 31 rfl w.heap.size 5 .u8 1 Try.underlying31 info8 (by omega) _ _ xs [_, _] rfl rfl (o2.alloc _) (rd_lit2 _ _ _ (by go_wf) (by go_wf)) (by simp; omega) (by simp; omega) ?_)
  intro v3 w3 o3 b3
  have b3' := (b2'.alloc (by omega) _).trans b3
  go_wp2
  go_ret
  exact ⟨_, rfl, by rw [HA.out]; exact o3, b3'⟩
end Go.Proofs.Ytgaoiljedfogjaa

/- Contracts of AppendCrc (program and reference). -/
import Derived.Test.YtdgffiaciccimaaCApp
import Derived.Test.YtdgffiaciccimaaCInfo
import Derived.Test.YtdgffiaciccimaaCLit
import Derived.Test.YtdgffiaciccimaaCCp
import Derived.Test.YtdgffiaciccimaaCCrc
namespace Go.Proofs.Ytdgffiaciccimaa
open Go.RowKit
set_option linter.unusedVariables false

/-- Data with its checksum behind it. -/
def appCrc (xs : List Int) : List Int := xs ++ [((crc xs : Nat) : Int) % 256, ((crc xs : Nat) : Int) / 256]

set_option maxHeartbeats 800000 in
theorem impl_AppendCrc (u : Value) (xs : List Int) (w : World) (hu : Rd .u8 w u xs) (hn : xs.length ≤ 1073741824) :
    Calls Try.prog 22 #[u] w (Fresh .u8 5 (appCrc xs) w) := by
  have hc := crc_bd hu.wf
  have HA : Hid (appCrc xs = xs ++ [((crc xs : Nat) : Int) % 256, ((crc xs : Nat) : Int) / 256]) := Lib.hid rfl
  have cc := fun v W hv => impl_Crc16 v xs W hv
  obtain ⟨m, hm⟩ : ∃ m, m = crc xs := ⟨_, rfl⟩
  rw [← hm] at hc HA cc
  have CC := Lib.hid cc
  clear hm cc
  go_enter Try.func22, Try.ntmps22
  go_wp2_with fail
  refine (CC.out _ _ hu).mono ?_
  rintro e w1 ⟨rfl, b1⟩
  have r1 := hu.keep b1
  go_wp2_with fail
  refine (impl_copyBytes _ _ _ r1 hn).mono ?_
  rintro e w2 ⟨v, rfl, o2, b2⟩
  have b2' := below_next b1 b2
  have s1 := b1.size
  have s2 := b2.size
  clear r1 b1 b2
  go_wp2_with (at_builtin; refine wpList_app _ rfl (.tmp 9) (.tmp 16) 24 rfl w.heap.size 5 .u8 1 Try.underlying24 info8 (by omega) _ _ xs [_, _] rfl rfl ((o2.mono s1 (Nat.le_refl _)).alloc _) (rd_lit2 _ _ _ (by go_wf) (by go_wf)) (by simp; omega) (by simp; omega) ?_)
  intro v3 w3 o3 b3
  have b3' := (b2'.alloc (by omega) _).trans b3
  go_wp2
  go_ret
  exact ⟨_, rfl, by rw [HA.out]; exact o3, b3'⟩
end Go.Proofs.Ytdgffiaciccimaa

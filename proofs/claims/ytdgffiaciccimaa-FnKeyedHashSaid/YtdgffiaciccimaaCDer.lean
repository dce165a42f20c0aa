/- Contracts of keyOrOne and DeriveFromString (program and reference). -/
import Derived.Test.YtdgffiaciccimaaCHash
import Derived.Test.YtdgffiaciccimaaCCol
import Derived.Test.YtdgffiaciccimaaCRun
import Derived.Lib.ConvBytes
import Derived.Lib.AtoiErrMem
namespace Go.Proofs.Ytdgffiaciccimaa
open Go.RowKit
set_option linter.unusedVariables false

/-- The bytes of a string as integers. -/
def sL (s : ByteArray) : List Int := s.data.toList.map (fun b => (b.toNat : Int))
theorem sL_len (s : ByteArray) : (sL s).length = s.size := by
  unfold sL; rw [List.length_map, Array.length_toList]; rfl
theorem sL_wf (s : ByteArray) : ∀ n ∈ sL s, (Lit.int .u8 n).wf = true := by
  intro n hn
  unfold sL at hn
  rw [List.mem_map] at hn
  obtain ⟨b, _, rfl⟩ := hn
  exact WalkArith.wf_u8 (by have := b.toNat_lt; omega)
theorem rd_bytes (w : World) (e : TypeId) (s : ByteArray) (hs : s.size ≤ maxLen) :
    Rd .u8 (Lib.bytesWorld w e s) (.slice (some ⟨w.heap.size, 0, none⟩) s.size (grownCap w s.size 0 e)) (sL s) := by
  refine ⟨sL_wf s, ?_⟩
  have hl := sL_len s
  have hc := grownCap_ge w s.size 0 e
  have hm := grownCap_le_maxLen w s.size 0 e hs
  rcases Nat.eq_zero_or_pos s.size with h0 | h0
  · exact .inl ⟨List.length_eq_zero_iff.mp (by omega), _, _, by rw [h0], by rw [h0] at hm; exact hm, fun h => by cases h⟩
  · refine .inr ⟨by omega, _, _, _, by rw [hl], by omega, hm, fun i hi => ?_⟩
    rw [Nat.zero_add, Lib.bytesWorld_cell w e s i (by omega)]
    have hi' : i < s.data.toList.length := by rw [Array.length_toList]; show i < s.size; omega
    unfold sL
    simp only [List.getD_eq_getElem?_getD, List.getElem?_map]
    rw [List.getElem?_eq_getElem hi']
    rfl
/-- What a derived key is. -/
def keyL (h : Int) : Int := if h = 0 then 1 else h
def drv (key : Int) (s : ByteArray) : Int := keyL (khsh key ((s.size : Int) :: sL s))
theorem mx_key {h : Int} (h0 : 0 ≤ h) : mxI 1 h = keyL h := by unfold mxI keyL; split <;> split <;> omega
theorem impl_keyOrOne (h : Int) (w : World) :
    Calls Try.prog 42 #[.int .i64 h] w fun e w' => e = .returned (.int .i64 (keyL h)) ∧ w = w' := by
  by_cases h0 : h = 0
  · rw [show keyL h = 1 from if_pos h0]
    subst h0
    go_enter Try.func42, Try.ntmps42
    go_wp2
    go_ret
    exact ⟨rfl, rfl⟩
  · rw [show keyL h = h from if_neg h0]
    have hb : (h == 0) = false := by simp [h0]
    go_enter Try.func42, Try.ntmps42
    go_wp2
    go_ret
    exact ⟨rfl, rfl⟩
set_option maxHeartbeats 800000 in
theorem impl_DeriveFromString (key : Int) (s : ByteArray) (w : World) (hk : -9223372036854775808 ≤ key ∧ key ≤ 9223372036854775807) (hs0 : s.size ≤ maxLen) (hs : s.size ≤ 1048576) :
    Calls Try.prog 11 #[.int .i64 key, .string s] w fun e w' => e = .returned (.int .i64 (drv key s)) ∧ Below w.heap.size w w' := by
  have hcv := fun w => Lib.run_convert_string_bytes (P := Try.prog) w 9 24 5 s Try.underlying9 Try.underlying24 Try.underlying5
  have hl := sL_len s
  have hr := rd_bytes w 5 s (by unfold maxLen; omega)
  have hb := Lib.bytesWorld_below w 5 s
  have hz := Lib.bytesWorld_size w 5 s
  generalize hc : grownCap w s.size 0 5 = c at hr
  generalize hw : Lib.bytesWorld w 5 s = wb at hr hb hz
  have hcv1 := hcv w
  rw [hc, hw] at hcv1
  clear hcv hc hw
  go_enter Try.func11, Try.ntmps11
  go_wp2_with fail
  refine (impl_BytesToInts _ _ _ hr (by omega)).mono ?_
  rintro e w2 ⟨x2, rfl, o2, b2⟩
  have B2 := below_next hb b2
  go_wp2_with fail
  refine (impl_KeyedHash _ _ _ _ hk o2.rd (by simp; omega)).mono ?_
  rintro e w3 ⟨rfl, b3⟩
  have B3 := below_next B2 b3
  go_wp2_with fail
  refine (impl_keyOrOne _ _).mono ?_
  rintro e w4 ⟨rfl, rfl⟩
  go_wp2_with fail
  go_ret
  exact ⟨rfl, B3⟩
set_option maxHeartbeats 800000 in
theorem spec_DeriveFromString (key : Int) (s : ByteArray) (w : World) (hk : -9223372036854775808 ≤ key ∧ key ≤ 9223372036854775807) (hs0 : s.size ≤ maxLen) (hs : s.size ≤ 1048576) :
    Calls Try.prog 10 #[.int .i64 key, .string s] w fun e w' => e = .returned (.int .i64 (drv key s)) ∧ Below w.heap.size w w' := by
  have hcv := fun w => Lib.run_convert_string_bytes (P := Try.prog) w 9 24 5 s Try.underlying9 Try.underlying24 Try.underlying5
  have hl := sL_len s
  have hr := rd_bytes w 5 s (by unfold maxLen; omega)
  have hb := Lib.bytesWorld_below w 5 s
  have hz := Lib.bytesWorld_size w 5 s
  generalize hc : grownCap w s.size 0 5 = c at hr
  generalize hw : Lib.bytesWorld w 5 s = wb at hr hb hz
  have hcv1 := hcv w
  rw [hc, hw] at hcv1
  clear hcv hc hw
  go_enter Try.func10, Try.ntmps10
  go_wp2_with fail
  refine (spec_BytesToInts _ _ _ hr (by omega)).mono ?_
  rintro e w2 ⟨x2, rfl, o2, b2⟩
  have B2 := below_next hb b2
  go_wp2_with fail
  refine (spec_KeyedHash _ _ _ _ hk o2.rd (by simp; omega)).mono ?_
  rintro e w3 ⟨rfl, b3⟩
  have B3 := below_next B2 b3
  go_wp2_with fail
  refine (spec_Max _ _ _).mono ?_
  rintro e w4 ⟨rfl, rfl⟩
  go_wp2_with fail
  go_ret
  exact ⟨ret_int (mx_key (khsh_bd _ _).1), B3⟩
end Go.Proofs.Ytdgffiaciccimaa

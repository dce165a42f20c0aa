/- FnScrambling: for every input the law's Go function returns true and leaves its arguments as they were. Conditions: none. -/
import Derived.Test.YtdgffiaciccimaaRows
import Derived.WalkKit
import Derived.ProofKit
import Derived.OpenShut
import Derived.ShutString
import Derived.ChangeOld
import Derived.Below
import Derived.Test.YtdgffiaciccimaaCEqual
import Derived.Test.YtdgffiaciccimaaCBig
import Derived.Test.YtdgffiaciccimaaCDrawC
import Derived.Test.YtdgffiaciccimaaCScrLaw
namespace Go.Proofs.Ytdgffiaciccimaa.fnScrambling
open Go.ChangeShapes Go.WideShapes Go.ChangeAt Go.RowKit
open Go.ChangeMaps (open_string shut_string)
set_option linter.unusedVariables false

theorem own : ownKnob Try.prog.godebug = none := by kernel_rfl
theorem laidOut : laidOutB Try.prog = true := by kernel_rfl


set_option maxRecDepth 100000 in
set_option maxHeartbeats 1600000 in
theorem walk {v0 : Value} (z0 : List Int) (w : World) (w0 : Rd .u8 w v0 z0) :
    Calls Try.prog 8 #[v0] w fun e w' => e = .returned (.bool true) ∧ Below w.heap.size w w' := by
  have q0 := w0.b
  have len0 := w0.len_le
  by_cases big0 : 1048576 < z0.length
  · have HB := Lib.hid (laws_big v0 z0 w w0)
    rw [decide_eq_true big0] at HB
    obtain ⟨ad0, c0, rfl⟩ := w0.shape
    clear w0 q0
    go_enter Try.func8, Try.ntmps8
    go_wp2_with fail
    refine HB.out.mono ?_
    rintro e w1 ⟨rfl, rfl⟩
    go_wp2
    go_ret
    exact ⟨rfl, Below.refl _ _⟩
  have HB := Lib.hid (laws_big v0 z0 w w0)
  rw [decide_eq_false big0] at HB
  obtain ⟨ad0, c0, rfl⟩ := w0.shape
  have le0 : z0.length ≤ 1048576 := by omega
  clear big0
  go_enter Try.func8, Try.ntmps8
  go_wp2_with fail
  refine HB.out.mono ?_
  rintro e w1 ⟨rfl, rfl⟩
  clear HB
  go_wp2_with fail
  refine (DrawScramble _ z0 _ w0 (by omega)).mono ?_
  rintro e w2 ⟨⟨s, u, ys, rfl, ⟨k0, k1⟩, o2, hy⟩, b2⟩
  have hk : -9223372036854775808 ≤ s ∧ s ≤ 9223372036854775807 := by omega
  have I1 : Hid (decide (scrB s (scrB s ys) = ys) = true) := Lib.hid (decide_eq_true (scrB_inv s ys))
  have l1 := scrB_len s ys
  go_wp2_with fail
  refine (impl_Scramble s u ys _ hk o2.rd (by omega)).mono ?_
  rintro e w3 ⟨u3, rfl, o3, b3⟩
  have B3 := below_next b2 b3
  have r3 := o2.rd.keep b3
  go_wp2_with fail
  refine (impl_Scramble s u3 _ _ hk o3.rd (by omega)).mono ?_
  rintro e w4 ⟨u4, rfl, o4, b4⟩
  have B4 := below_next B3 b4
  have r4 := r3.keep b4
  have x4 := o3.rd.keep b4
  clear l1
  go_wp2_with fail
  refine (laws_sameInts u4 u _ ys _ o4.rd r4).mono ?_
  rintro e w5 ⟨rfl, b5⟩
  rw [I1.out]
  have B5 := below_next B4 b5
  have r5 := r4.keep b5
  have x5 := x4.keep b5
  clear o2 o3 o4 r3 r4 x4 b2 b3 b4 b5 B3 B4 I1
  by_cases hin : 1 ≤ s ∧ s ≤ 127
  · obtain ⟨n, rfl⟩ := Int.eq_ofNat_of_zero_le (show 0 ≤ s by omega)
    have hn : 1 ≤ n ∧ n ≤ 127 := by omega
    have i1 := hn.1
    have i2 := hn.2
    have HN := Lib.hid hn
    clear hin k0 k1 hk
    go_wp2
    go_loop [6, 7] (fun t i => ∃ k : Nat, k ≤ 127 ∧ i = .int .i64 k ∧ t = .int .i64 ((scrN k n : Nat) : Int)) (fun _ i => 127 - (intOf i).toNat)
    case atStart => exact ⟨0, Nat.zero_le _, rfl, rfl⟩
    case round =>
      obtain ⟨k, hk, rfl, rfl⟩ := hrel
      obtain ⟨m1, m2⟩ := scrN_bd HN.out k
      obtain ⟨p1, p2⟩ := scrN_bd HN.out (k + 1)
      by_cases hlt : k < 127
      · have HP : Hid (nxtS (scrN k n) = scrN (k + 1) n) := Lib.hid rfl
        have hne : k < 126 → scrN (k + 1) n ≠ n := fun h => scr_ne HN.out h
        obtain ⟨m, hm⟩ : ∃ m, m = scrN k n := ⟨_, rfl⟩
        obtain ⟨p, hp⟩ : ∃ p, p = scrN (k + 1) n := ⟨_, rfl⟩
        rw [← hm] at m1 m2 HP ⊢
        rw [← hp] at p1 p2 HP hne
        have CN := Lib.hid (fun w => impl_next m w m1 m2)
        rw [HP.out] at CN
        have HQ := Lib.hid hp
        clear hm hp HP
        by_cases h6 : k < 126
        · have hq : ((p : Int) == (n : Int)) = false := by have := hne h6; simp; omega
          clear hne
          go_wp2_with fail
          refine (CN.out _).mono ?_
          rintro e w6 ⟨rfl, rfl⟩
          go_wp2
          go_round
          case rel => exact ⟨k + 1, by omega, by go_num, by rw [HQ.out]⟩
          case measure => simp [intOf]; omega
        · clear hne
          by_cases hq0 : p = n
          · have hq : ((p : Int) == (n : Int)) = true := by simp [hq0]
            have HZ := Lib.hid hq0
            clear hq0
            go_wp2_with fail
            refine (CN.out _).mono ?_
            rintro e w6 ⟨rfl, rfl⟩
            go_wp2
            go_round
            case rel => exact ⟨k + 1, by omega, by go_num, by rw [HQ.out]⟩
            case measure => simp [intOf]; omega
          · have hq : ((p : Int) == (n : Int)) = false := by simp; omega
            clear hq0
            go_wp2_with fail
            refine (CN.out _).mono ?_
            rintro e w6 ⟨rfl, rfl⟩
            go_wp2
            go_round
            case rel => exact ⟨k + 1, by omega, by go_num, by rw [HQ.out]⟩
            case measure => simp [intOf]; omega
      · obtain rfl : k = 127 := by omega
        have e1 := scr_per HN.out
        rw [e1]
        have g1 : scrI (n : Int) 127 = (n : Int) := by unfold scrI; rw [if_pos ⟨by omega, by omega, by omega⟩, show (127 : Int).toNat = 127 from rfl, Int.toNat_natCast, e1]
        have g2 : scrI (n : Int) 1 = ((nxtS n : Nat) : Int) := by unfold scrI; rw [if_pos ⟨by omega, by omega, by omega⟩]; rfl
        have C1 := Lib.hid (fun w => impl_ScramblerStateAfter (n : Int) 127 w (by omega) (by omega))
        have C2 := Lib.hid (fun w => impl_ScramblerStateAfter (n : Int) 1 w (by omega) (by omega))
        have C3 := Lib.hid (fun w => impl_next n w i1 i2)
        rw [g1] at C1
        rw [g2] at C2
        clear e1 g1 g2 m1 m2 p1 p2
        go_wp2_with fail
        refine (C1.out _).mono ?_
        rintro e w6 ⟨rfl, rfl⟩
        go_wp2_with fail
        refine (C2.out _).mono ?_
        rintro e w6 ⟨rfl, rfl⟩
        go_wp2_with fail
        refine (C3.out _).mono ?_
        rintro e w6 ⟨rfl, rfl⟩
        go_wp2
        go_ret
        exact ⟨ret_bool (by simp), B5⟩
  · have I2 : Hid (decide (scrB s ys = ys) = true) := Lib.hid (decide_eq_true (scrB_out hin ys))
    have C3 := Lib.hid (fun w => impl_NextScramblerState s w hk)
    rw [show nxtI s = 0 from if_neg hin] at C3
    by_cases h1 : s < 1
    · clear hin
      go_wp2_with fail
      refine (laws_sameInts u3 u _ ys _ x5 r5).mono ?_
      rintro e w6 ⟨rfl, b6⟩
      rw [I2.out]
      go_wp2_with fail
      refine (C3.out _).mono ?_
      rintro e w7 ⟨rfl, rfl⟩
      go_wp2
      go_ret
      exact ⟨ret_bool (by simp), below_next B5 b6⟩
    · have h2 : 127 < s := by omega
      clear hin
      go_wp2_with fail
      refine (laws_sameInts u3 u _ ys _ x5 r5).mono ?_
      rintro e w6 ⟨rfl, b6⟩
      rw [I2.out]
      go_wp2_with fail
      refine (C3.out _).mono ?_
      rintro e w7 ⟨rfl, rfl⟩
      go_wp2
      go_ret
      exact ⟨ret_bool (by simp), below_next B5 b6⟩

set_option maxRecDepth 100000 in
theorem lifted (os : Os) (started : os.Started) (H : Type) (enc : TypeId × Value → H) :
    ReturnsInHanded {} Try.checked os 8 .any (Rows.fnScramblingSpec.pre6 enc Try.prog Try.f8 Rows.fnScramblingRow.domain false) (Rows.fnScramblingSpec.post enc Try.prog Try.f8 false true false false) := by
  refine returnsInHanded_of_change (C := Try.checked) own started (by kernel_rfl) Try.func8
    (ChangeSpec.witness6 (enc := enc) (C := Try.checked) false ⟨#[], #[.slice none 0 0], []⟩ 8 (by kernel_rfl) (by kernel_rfl) (by kernel_rfl) (by kernel_rfl)) ?_
  intro W base args ds gs before hval0 hW hcnd _
  have hval : ∀ (j : Nat) t v, Try.f8.params[j]? = some t → args[j]? = some v → Value.okWide Try.prog W .any base t v := hval0
  have hW' := hW
  obtain ⟨p, q, hA0, hV, rfl, hfz, hnd⟩ := hW
  have hA : DataW.TrodAll enc Try.prog W 0 (fun _ => true) true Try.f8.params.toList args.toList ds p := hA0
  rw [Try.params8] at hA hval
  obtain ⟨v0, vs0, d0, ds0, p0, q0, hargs, rfl, rfl, h0, r0⟩ := trodAll_cons hA
  obtain ⟨rfl, rfl, rfl⟩ := trodAll_nil r0
  obtain rfl : args = #[v0] := by cases args; simp_all
  obtain ⟨rfl, rfl⟩ := trodVars_none hV
  obtain ⟨a0, len0, cap0, rfl⟩ := okWide_slice Try.underlying24 (hval 0 24 v0 rfl rfl)
  have k0 := h0
  have lt0 : ∀ x ∈ p0, x.block < W.heap.size := by obtain ⟨m, hm⟩ := k0; exact DataW.trod_lt m _ _ _ hm
  obtain ⟨z0, w0⟩ : ∃ zs, Rd .u8 W (.slice a0 len0 cap0) zs := by
    obtain ⟨fuel, hf⟩ := h0
    rcases open_ints Try.underlying24 Try.underlying5 (by kernel_rfl) hf with ⟨hcs, _⟩ | ⟨x, l, c, zs, hcs, _, hl, hm, hz, _, hcell, hwz⟩
    · simp [Value.cells] at hcs
      obtain ⟨rfl, rfl, rfl⟩ := hcs
      exact ⟨[], Rd.nil _ _⟩
    · simp [Value.cells] at hcs
      obtain ⟨rfl, rfl, rfl⟩ := hcs
      exact ⟨zs.take len0, Rd.of_row hl hm (by simpa using hz) hcell hwz⟩
  clear hA0 hval0
  refine (walk z0 W w0).mono fun e W' ⟨he, bel⟩ => ?_
  subst he
  exact ⟨_, rfl, _, _, _, [], _, [], hW', trodAll_mk1 (shut_bool Try.underlying4 _), (trodAll_cons_mk (Below.trod laidOut (by kernel_rfl) (of_decide_eq_true (by kernel_rfl)) k0 bel lt0) trodAll_mk0), rfl, bel.frame _, fun h => by cases h⟩

theorem over : Rows.fnScramblingRow.holds Try.pinned (OpenSpec.ofChange Rows.fnScramblingSpec) :=
  OpenClaim.holds_of_wide 8 Try.f8 rfl rfl rfl rfl rfl rfl rfl ⟨rfl, rfl, rfl, rfl, rfl⟩ rfl rfl rfl rfl rfl (by kernel_rfl) Try.func8 (by kernel_rfl)
    (of_decide_eq_true (by kernel_rfl)) (by unfold Func.isWrapper; first | (rw [if_pos (by decide +kernel)]; kernel_rfl) | (rw [if_neg (by decide +kernel)]; exact ⟨rfl, rfl⟩))
    (fun os started H enc _ => lifted os started H enc)

theorem proved : Rows.FnScramblingSaid := over
#print axioms proved
end Go.Proofs.Ytdgffiaciccimaa.fnScrambling


/- FnExactDecrypt: for every input the law's Go function returns true and leaves its arguments as they were. Conditions: none. -/
import Derived.Test.YtdgffiaciccimaaRows
import Derived.WalkKit
import Derived.ProofKit
import Derived.OpenShut
import Derived.ShutString
import Derived.ChangeOld
import Derived.Below
import Derived.Test.YtdgffiaciccimaaCEq
import Derived.Test.YtdgffiaciccimaaCSlices
import Derived.Test.YtdgffiaciccimaaCCryD
namespace Go.Proofs.Ytdgffiaciccimaa.fnExactDecrypt
open Go.ChangeShapes Go.WideShapes Go.ChangeAt Go.RowKit
open Go.ChangeMaps (open_string shut_string)
set_option linter.unusedVariables false

theorem own : ownKnob Try.prog.godebug = none := by kernel_rfl
theorem laidOut : laidOutB Try.prog = true := by kernel_rfl


set_option maxHeartbeats 1600000 in
theorem walk (a0 : Int) {v1 : Value} (z1 : List Int) (w : World) (w0 : -9223372036854775808 ≤ a0 ∧ a0 ≤ 9223372036854775807) (w1 : Rd .u8 w v1 z1) :
    Calls Try.prog 4 #[.int .i64 a0, v1] w fun e w' => e = .returned (.bool true) ∧ Below w.heap.size w w' := by
  have len1 := w1.len_le
  have q1 := w1.b
  obtain ⟨ad1, c1, rfl⟩ := w1.shape
  by_cases big1 : 1048576 < z1.length
  · go_enter Try.func4, Try.ntmps4
    go_wp2
    go_ret
    exact ⟨rfl, Below.refl _ _⟩
  have le1 : z1.length ≤ 1048576 := by omega
  go_enter Try.func4, Try.ntmps4
  go_wp2_with fail
  refine (laws_toByteS _ _ _ (q1.keep (Below.refl _ _)).1 (by omega)).mono ?_
  rintro e w101 ⟨x_t1, rfl, o_t1, b1⟩
  have B1 := below_next (Below.refl _ _) b1
  have s1 := b1.size
  go_wp2_with fail
  refine (spec_Decrypt _ _ _ _ w0 o_t1.rd (by omega)).mono ?_
  rintro e w102 ⟨x_w0, rfl, o_w0, b2⟩
  have B2 := below_next B1 b2
  have s2 := b2.size
  replace o_t1 := o_t1.keep b2 (by omega)
  go_wp2_with fail
  refine (laws_toByteS _ _ _ (q1.keep B2).1 (by omega)).mono ?_
  rintro e w103 ⟨x_x1, rfl, o_x1, b3⟩
  have B3 := below_next B2 b3
  have s3 := b3.size
  replace o_t1 := o_t1.keep b3 (by omega)
  replace o_w0 := o_w0.keep b3 (by omega)
  go_wp2_with fail
  refine (impl_Decrypt _ _ _ _ w0 o_x1.rd (by omega)).mono ?_
  rintro e w104 ⟨x_g0, rfl, o_g0, b4⟩
  have B4 := below_next B3 b4
  have s4 := b4.size
  replace o_t1 := o_t1.keep b4 (by omega)
  replace o_w0 := o_w0.keep b4 (by omega)
  replace o_x1 := o_x1.keep b4 (by omega)
  go_wp2_with fail
  refine (laws_eqByteS_same _ _ _ _ o_g0.rd o_w0.rd).mono ?_
  rintro e w105 ⟨rfl, b5⟩
  have B5 := below_next B4 b5
  have s5 := b5.size
  replace o_t1 := o_t1.keep b5 (by omega)
  replace o_w0 := o_w0.keep b5 (by omega)
  replace o_x1 := o_x1.keep b5 (by omega)
  replace o_g0 := o_g0.keep b5 (by omega)
  go_wp2_with fail
  refine (laws_toByteS _ _ _ (q1.keep B5).1 (by omega)).mono ?_
  rintro e w106 ⟨x_t2, rfl, o_t2, b6⟩
  have B6 := below_next B5 b6
  have s6 := b6.size
  replace o_t1 := o_t1.keep b6 (by omega)
  replace o_w0 := o_w0.keep b6 (by omega)
  replace o_x1 := o_x1.keep b6 (by omega)
  replace o_g0 := o_g0.keep b6 (by omega)
  go_wp2_with fail
  refine (laws_eqByteS_same _ _ _ _ o_x1.rd o_t2.rd).mono ?_
  rintro e w107 ⟨rfl, b7⟩
  have B7 := below_next B6 b7
  have s7 := b7.size
  replace o_t1 := o_t1.keep b7 (by omega)
  replace o_w0 := o_w0.keep b7 (by omega)
  replace o_x1 := o_x1.keep b7 (by omega)
  replace o_g0 := o_g0.keep b7 (by omega)
  replace o_t2 := o_t2.keep b7 (by omega)
  go_wp2_with fail
  refine (laws_markByteS _ _ _ _ o_x1 (by omega) (by omega)).mono ?_
  rintro e w108 ⟨rfl, oo, b8⟩
  have B8 := Below.trans B7 (b8.below (by omega) (by omega))
  have s8 := b8.size
  replace o_t1 := o_t1.apart b8 (by omega)
  replace o_w0 := o_w0.apart b8 (by omega)
  replace o_g0 := o_g0.apart b8 (by omega)
  replace o_t2 := o_t2.apart b8 (by omega)
  replace o_x1 := oo
  go_wp2_with fail
  refine (laws_eqByteS_same _ _ _ _ o_g0.rd o_w0.rd).mono ?_
  rintro e w109 ⟨rfl, b9⟩
  have B9 := below_next B8 b9
  have s9 := b9.size
  replace o_t1 := o_t1.keep b9 (by omega)
  replace o_w0 := o_w0.keep b9 (by omega)
  replace o_x1 := o_x1.keep b9 (by omega)
  replace o_g0 := o_g0.keep b9 (by omega)
  replace o_t2 := o_t2.keep b9 (by omega)
  go_wp2_with fail
  refine (laws_markByteS _ _ _ _ o_g0 (by omega) (by rw [cry_len]; omega)).mono ?_
  rintro e w110 ⟨rfl, oo, b10⟩
  have B10 := Below.trans B9 (b10.below (by omega) (by omega))
  have s10 := b10.size
  replace o_t1 := o_t1.apart b10 (by omega)
  replace o_w0 := o_w0.apart b10 (by omega)
  replace o_x1 := o_x1.apart b10 (by omega)
  replace o_t2 := o_t2.apart b10 (by omega)
  replace o_g0 := oo
  go_wp2_with fail
  refine (laws_heldByteS _ _ _ _ o_g0.rd (by omega) (by rw [cry_len]; omega)).mono ?_
  rintro e w111 ⟨rfl, b11⟩
  have B11 := below_next B10 b11
  have s11 := b11.size
  replace o_t1 := o_t1.keep b11 (by omega)
  replace o_w0 := o_w0.keep b11 (by omega)
  replace o_x1 := o_x1.keep b11 (by omega)
  replace o_g0 := o_g0.keep b11 (by omega)
  replace o_t2 := o_t2.keep b11 (by omega)
  go_wp2_with fail
  refine (laws_toByteS _ _ _ (q1.keep B11).1 (by omega)).mono ?_
  rintro e w112 ⟨x_t3, rfl, o_t3, b12⟩
  have B12 := below_next B11 b12
  have s12 := b12.size
  replace o_t1 := o_t1.keep b12 (by omega)
  replace o_w0 := o_w0.keep b12 (by omega)
  replace o_x1 := o_x1.keep b12 (by omega)
  replace o_g0 := o_g0.keep b12 (by omega)
  replace o_t2 := o_t2.keep b12 (by omega)
  go_wp2_with fail
  refine (impl_Decrypt _ _ _ _ w0 o_t3.rd (by omega)).mono ?_
  rintro e w113 ⟨x_h0, rfl, o_h0, b13⟩
  have B13 := below_next B12 b13
  have s13 := b13.size
  replace o_t1 := o_t1.keep b13 (by omega)
  replace o_w0 := o_w0.keep b13 (by omega)
  replace o_x1 := o_x1.keep b13 (by omega)
  replace o_g0 := o_g0.keep b13 (by omega)
  replace o_t2 := o_t2.keep b13 (by omega)
  replace o_t3 := o_t3.keep b13 (by omega)
  go_wp2_with fail
  refine (laws_eqByteS_same _ _ _ _ o_h0.rd o_w0.rd).mono ?_
  rintro e w114 ⟨rfl, b14⟩
  have B14 := below_next B13 b14
  have s14 := b14.size
  replace o_t1 := o_t1.keep b14 (by omega)
  replace o_w0 := o_w0.keep b14 (by omega)
  replace o_x1 := o_x1.keep b14 (by omega)
  replace o_g0 := o_g0.keep b14 (by omega)
  replace o_t2 := o_t2.keep b14 (by omega)
  replace o_t3 := o_t3.keep b14 (by omega)
  replace o_h0 := o_h0.keep b14 (by omega)
  go_wp2_with fail
  refine (laws_heldByteS _ _ _ _ o_g0.rd (by omega) (by rw [cry_len]; omega)).mono ?_
  rintro e w115 ⟨rfl, b15⟩
  have B15 := below_next B14 b15
  have s15 := b15.size
  replace o_t1 := o_t1.keep b15 (by omega)
  replace o_w0 := o_w0.keep b15 (by omega)
  replace o_x1 := o_x1.keep b15 (by omega)
  replace o_g0 := o_g0.keep b15 (by omega)
  replace o_t2 := o_t2.keep b15 (by omega)
  replace o_t3 := o_t3.keep b15 (by omega)
  replace o_h0 := o_h0.keep b15 (by omega)
  go_wp2_with fail
  go_ret
  exact ⟨rfl, B15⟩

set_option maxRecDepth 100000 in
theorem lifted (os : Os) (started : os.Started) (H : Type) (enc : TypeId × Value → H) :
    ReturnsInHanded {} Try.checked os 4 .any (Rows.fnExactDecryptSpec.pre6 enc Try.prog Try.f4 Rows.fnExactDecryptRow.domain false) (Rows.fnExactDecryptSpec.post enc Try.prog Try.f4 false true false false) := by
  refine returnsInHanded_of_change (C := Try.checked) own started (by kernel_rfl) Try.func4
    (ChangeSpec.witness6 (enc := enc) (C := Try.checked) false ⟨#[], #[.int .i64 0, .slice none 0 0], []⟩ 8 (by kernel_rfl) (by kernel_rfl) (by kernel_rfl) (by kernel_rfl)) ?_
  intro W base args ds gs before hval0 hW hcnd _
  have hval : ∀ (j : Nat) t v, Try.f4.params[j]? = some t → args[j]? = some v → Value.okWide Try.prog W .any base t v := hval0
  have hW' := hW
  obtain ⟨p, q, hA0, hV, rfl, hfz, hnd⟩ := hW
  have hA : DataW.TrodAll enc Try.prog W 0 (fun _ => true) true Try.f4.params.toList args.toList ds p := hA0
  rw [Try.params4] at hA hval
  obtain ⟨v0, vs0, d0, ds0, p0, q0, hargs, rfl, rfl, h0, r0⟩ := trodAll_cons hA
  obtain ⟨v1, vs1, d1, ds1, p1, q1, rfl, rfl, rfl, h1, r1⟩ := trodAll_cons r0
  obtain ⟨rfl, rfl, rfl⟩ := trodAll_nil r1
  obtain rfl : args = #[v0, v1] := by cases args; simp_all
  obtain ⟨rfl, rfl⟩ := trodVars_none hV
  obtain ⟨a0, rfl, rfl, rfl, w0⟩ := open_int Try.underlying3 (hval 0 3 v0 rfl rfl) h0
  obtain ⟨a1, len1, cap1, rfl⟩ := okWide_slice Try.underlying24 (hval 1 24 v1 rfl rfl)
  have k1 := h1
  have lt1 : ∀ x ∈ p1, x.block < W.heap.size := by obtain ⟨m, hm⟩ := k1; exact DataW.trod_lt m _ _ _ hm
  obtain ⟨z1, w1⟩ : ∃ zs, Rd .u8 W (.slice a1 len1 cap1) zs := by
    obtain ⟨fuel, hf⟩ := h1
    rcases open_ints Try.underlying24 Try.underlying5 (by kernel_rfl) hf with ⟨hcs, _⟩ | ⟨x, l, c, zs, hcs, _, hl, hm, hz, _, hcell, hwz⟩
    · simp [Value.cells] at hcs
      obtain ⟨rfl, rfl, rfl⟩ := hcs
      exact ⟨[], Rd.nil _ _⟩
    · simp [Value.cells] at hcs
      obtain ⟨rfl, rfl, rfl⟩ := hcs
      exact ⟨zs.take len1, Rd.of_row hl hm (by simpa using hz) hcell hwz⟩
  clear hA0 hval0
  refine (walk a0 z1 W (wf_bd w0) w1).mono fun e W' ⟨he, bel⟩ => ?_
  subst he
  exact ⟨_, rfl, _, _, _, [], _, [], hW', trodAll_mk1 (shut_bool Try.underlying4 _), (trodAll_cons_mk (shut_int Try.underlying3 w0) (trodAll_cons_mk (Below.trod laidOut (by kernel_rfl) (of_decide_eq_true (by kernel_rfl)) k1 bel lt1) trodAll_mk0)), rfl, bel.frame _, fun h => by cases h⟩

theorem over : Rows.fnExactDecryptRow.holds Try.pinned (OpenSpec.ofChange Rows.fnExactDecryptSpec) :=
  OpenClaim.holds_of_wide 4 Try.f4 rfl rfl rfl rfl rfl rfl rfl ⟨rfl, rfl, rfl, rfl, rfl⟩ rfl rfl rfl rfl rfl (by kernel_rfl) Try.func4 (by kernel_rfl)
    (of_decide_eq_true (by kernel_rfl)) (by unfold Func.isWrapper; first | (rw [if_pos (by decide +kernel)]; kernel_rfl) | (rw [if_neg (by decide +kernel)]; exact ⟨rfl, rfl⟩))
    (fun os started H enc _ => lifted os started H enc)

theorem proved : Rows.FnExactDecryptSaid := over
#print axioms proved
end Go.Proofs.Ytdgffiaciccimaa.fnExactDecrypt


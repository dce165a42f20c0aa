/- FnExactIntToBits: for every input the law's Go function returns true and leaves its arguments as they were. Conditions: none. -/
import Derived.Test.YtgaoiljedfogjaaRows
import Derived.WalkKit
import Derived.ProofKit
import Derived.OpenShut
import Derived.ShutString
import Derived.ChangeOld
import Derived.Below
import Derived.Test.YtgaoiljedfogjaaCEq
import Derived.Test.YtgaoiljedfogjaaCSlices
import Derived.Test.YtgaoiljedfogjaaCItb
namespace Go.Proofs.Ytgaoiljedfogjaa.fnExactIntToBits
open Go.ChangeShapes Go.WideShapes Go.ChangeAt Go.RowKit
open Go.ChangeMaps (open_string shut_string)
set_option linter.unusedVariables false

theorem own : ownKnob Try.prog.godebug = none := by kernel_rfl


set_option maxHeartbeats 1600000 in
theorem walk (a0 : Int) (a1 : Int) (w : World) (w0 : -9223372036854775808 ≤ a0 ∧ a0 ≤ 9223372036854775807) (w1 : -9223372036854775808 ≤ a1 ∧ a1 ≤ 9223372036854775807) :
    Calls Try.prog 3 #[.int .i64 a0, .int .i64 a1] w fun e w' => e = .returned (.bool true) ∧ Below w.heap.size w w' := by
  go_enter Try.func3, Try.ntmps3
  go_wp2_with fail
  refine (spec_IntToBits _ _ _ w0 w1).mono ?_
  rintro e w101 ⟨x_w0, rfl, o_w0, b1⟩
  have B1 := below_next (Below.refl _ _) b1
  have s1 := b1.size
  go_wp2_with fail
  refine (impl_IntToBits _ _ _ w0 w1).mono ?_
  rintro e w102 ⟨x_g0, rfl, o_g0, b2⟩
  have B2 := below_next B1 b2
  have s2 := b2.size
  replace o_w0 := o_w0.keep b2 (by omega)
  go_wp2_with fail
  refine (laws_eqIntS_same _ _ _ _ o_g0.rd o_w0.rd).mono ?_
  rintro e w103 ⟨rfl, b3⟩
  have B3 := below_next B2 b3
  have s3 := b3.size
  replace o_w0 := o_w0.keep b3 (by omega)
  replace o_g0 := o_g0.keep b3 (by omega)
  go_wp2_with fail
  refine (laws_markIntS _ _ _ _ o_g0 (by omega) (by have := itbI_len a0 a1; omega)).mono ?_
  rintro e w104 ⟨rfl, oo, b4⟩
  have B4 := Below.trans B3 (b4.below (by omega) (by omega))
  have s4 := b4.size
  replace o_w0 := o_w0.apart b4 (by omega)
  replace o_g0 := oo
  go_wp2_with fail
  refine (laws_heldIntS _ _ _ _ o_g0.rd (by omega) (by have := itbI_len a0 a1; omega)).mono ?_
  rintro e w105 ⟨rfl, b5⟩
  have B5 := below_next B4 b5
  have s5 := b5.size
  replace o_w0 := o_w0.keep b5 (by omega)
  replace o_g0 := o_g0.keep b5 (by omega)
  go_wp2_with fail
  refine (impl_IntToBits _ _ _ w0 w1).mono ?_
  rintro e w106 ⟨x_h0, rfl, o_h0, b6⟩
  have B6 := below_next B5 b6
  have s6 := b6.size
  replace o_w0 := o_w0.keep b6 (by omega)
  replace o_g0 := o_g0.keep b6 (by omega)
  go_wp2_with fail
  refine (laws_eqIntS_same _ _ _ _ o_h0.rd o_w0.rd).mono ?_
  rintro e w107 ⟨rfl, b7⟩
  have B7 := below_next B6 b7
  have s7 := b7.size
  replace o_w0 := o_w0.keep b7 (by omega)
  replace o_g0 := o_g0.keep b7 (by omega)
  replace o_h0 := o_h0.keep b7 (by omega)
  go_wp2_with fail
  refine (laws_heldIntS _ _ _ _ o_g0.rd (by omega) (by have := itbI_len a0 a1; omega)).mono ?_
  rintro e w108 ⟨rfl, b8⟩
  have B8 := below_next B7 b8
  have s8 := b8.size
  replace o_w0 := o_w0.keep b8 (by omega)
  replace o_g0 := o_g0.keep b8 (by omega)
  replace o_h0 := o_h0.keep b8 (by omega)
  go_wp2_with fail
  go_ret
  exact ⟨rfl, B8⟩

set_option maxRecDepth 100000 in
theorem lifted (os : Os) (started : os.Started) (H : Type) (enc : TypeId × Value → H) :
    ReturnsInHanded {} Try.checked os 3 .any (Rows.fnExactIntToBitsSpec.pre6 enc Try.prog Try.f3 Rows.fnExactIntToBitsRow.domain false) (Rows.fnExactIntToBitsSpec.post enc Try.prog Try.f3 false true false false) := by
  refine returnsInHanded_of_change (C := Try.checked) own started (by kernel_rfl) Try.func3
    (ChangeSpec.witness6 (enc := enc) (C := Try.checked) false ⟨#[], #[.int .i64 0, .int .i64 0], []⟩ 8 (by kernel_rfl) (by kernel_rfl) (by kernel_rfl) (by kernel_rfl)) ?_
  intro W base args ds gs before hval0 hW hcnd _
  have hval : ∀ (j : Nat) t v, Try.f3.params[j]? = some t → args[j]? = some v → Value.okWide Try.prog W .any base t v := hval0
  have hW' := hW
  obtain ⟨p, q, hA0, hV, rfl, hfz, hnd⟩ := hW
  have hA : DataW.TrodAll enc Try.prog W 0 (fun _ => true) true Try.f3.params.toList args.toList ds p := hA0
  rw [Try.params3] at hA hval
  obtain ⟨v0, vs0, d0, ds0, p0, q0, hargs, rfl, rfl, h0, r0⟩ := trodAll_cons hA
  obtain ⟨v1, vs1, d1, ds1, p1, q1, rfl, rfl, rfl, h1, r1⟩ := trodAll_cons r0
  obtain ⟨rfl, rfl, rfl⟩ := trodAll_nil r1
  obtain rfl : args = #[v0, v1] := by cases args; simp_all
  obtain ⟨rfl, rfl⟩ := trodVars_none hV
  obtain ⟨a0, rfl, rfl, rfl, w0⟩ := open_int Try.underlying3 (hval 0 3 v0 rfl rfl) h0
  obtain ⟨a1, rfl, rfl, rfl, w1⟩ := open_int Try.underlying3 (hval 1 3 v1 rfl rfl) h1
  clear hA0 hval0
  refine (walk a0 a1 W (wf_bd w0) (wf_bd w1)).mono fun e W' ⟨he, bel⟩ => ?_
  subst he
  exact ⟨_, rfl, _, _, _, [], _, [], hW', trodAll_mk1 (shut_bool Try.underlying4 _), (trodAll_cons_mk (shut_int Try.underlying3 w0) (trodAll_cons_mk (shut_int Try.underlying3 w1) trodAll_mk0)), rfl, bel.frame _, fun h => by cases h⟩

theorem over : Rows.fnExactIntToBitsRow.holds Try.pinned (OpenSpec.ofChange Rows.fnExactIntToBitsSpec) :=
  OpenClaim.holds_of_wide 3 Try.f3 rfl rfl rfl rfl rfl rfl rfl ⟨rfl, rfl, rfl, rfl, rfl⟩ rfl rfl rfl rfl rfl (by kernel_rfl) Try.func3 (by kernel_rfl)
    (of_decide_eq_true (by kernel_rfl)) (by unfold Func.isWrapper; first | (rw [if_pos (by decide +kernel)]; kernel_rfl) | (rw [if_neg (by decide +kernel)]; exact ⟨rfl, rfl⟩))
    (fun os started H enc _ => lifted os started H enc)

theorem proved : Rows.FnExactIntToBitsSaid := over
#print axioms proved
end Go.Proofs.Ytgaoiljedfogjaa.fnExactIntToBits


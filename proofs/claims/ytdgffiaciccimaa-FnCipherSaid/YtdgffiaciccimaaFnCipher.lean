/- FnCipher: for every input the law's Go function returns true and leaves its arguments as they were. Conditions: none. -/
import Derived.Test.YtdgffiaciccimaaRows
import Derived.WalkKit
import Derived.ProofKit
import Derived.OpenShut
import Derived.ShutString
import Derived.ChangeOld
import Derived.Below
import Derived.Test.YtdgffiaciccimaaCEqual
import Derived.Test.YtdgffiaciccimaaCBig
import Derived.Test.YtdgffiaciccimaaCDrawC
import Derived.Test.YtdgffiaciccimaaCCry
namespace Go.Proofs.Ytdgffiaciccimaa.fnCipher
open Go.ChangeShapes Go.WideShapes Go.ChangeAt Go.RowKit
open Go.ChangeMaps (open_string shut_string)
set_option linter.unusedVariables false

theorem own : ownKnob Try.prog.godebug = none := by kernel_rfl
theorem laidOut : laidOutB Try.prog = true := by kernel_rfl


theorem cry_get (s key : Int) (xs : List Int) (i : Nat) (h : i < (cry s key xs).length) : (cry s key xs)[i] = (xs.getD i 0 + s * khsh key [(i : Int)]) % 256 := by
  simp only [cry, cryN, List.getElem_map, List.getElem_range]
theorem cry_inv (s key : Int) {xs : List Int} (hw : ∀ n ∈ xs, (Lit.int .u8 n).wf = true) : cry (-s) key (cry s key xs) = xs := by
  apply List.ext_getElem
  · rw [cry_len, cry_len]
  · intro i h1 h2
    have h3 := bounds_u8 (hw xs[i] (List.getElem_mem h2))
    have h4 : i < (cry s key xs).length := by rw [cry_len]; exact h2
    rw [cry_get, List.getD_eq_getElem?_getD, List.getElem?_eq_getElem h4, Option.getD_some, cry_get, List.getD_eq_getElem?_getD, List.getElem?_eq_getElem h2, Option.getD_some, Int.neg_mul]
    omega
set_option maxHeartbeats 1600000 in
theorem walk {v0 : Value} (z0 : List Int) (w : World) (w0 : Rd .u8 w v0 z0) :
    Calls Try.prog 7 #[v0] w fun e w' => e = .returned (.bool true) ∧ Below w.heap.size w w' := by
  have q0 := w0.b
  have len0 := w0.len_le
  by_cases big0 : 1048576 < z0.length
  · have HB := Lib.hid (laws_big v0 z0 w w0)
    rw [decide_eq_true big0] at HB
    obtain ⟨ad0, c0, rfl⟩ := w0.shape
    clear w0 q0
    go_enter Try.func7, Try.ntmps7
    go_wp2_with fail
    refine HB.out.mono ?_
    rintro e w1 ⟨rfl, rfl⟩
    go_wp2
    go_ret
    exact ⟨rfl, Below.refl _ _⟩
  have HB := Lib.hid (laws_big v0 z0 w w0)
  rw [decide_eq_false big0] at HB
  obtain ⟨ad0, c0, rfl⟩ := w0.shape
  have le0 : z0.length ≤ 1048576 := by omega
  clear big0
  go_enter Try.func7, Try.ntmps7
  go_wp2_with fail
  refine HB.out.mono ?_
  rintro e w1 ⟨rfl, rfl⟩
  clear HB
  go_wp2_with fail
  refine (DrawEncrypt _ z0 _ w0 (by omega)).mono ?_
  rintro e w2 ⟨⟨k, u, ys, rfl, ⟨k0, k1⟩, o2, hy⟩, b2⟩
  have hk : -9223372036854775808 ≤ k ∧ k ≤ 9223372036854775807 := by omega
  have i1 := cry_inv 1 k o2.rd.wf
  have i2 := cry_inv (-1) k o2.rd.wf
  have l1 := cry_len 1 k ys
  have l2 := cry_len (-1) k ys
  have I1 : Hid (decide (cry (-1) k (cry 1 k ys) = ys) = true) := Lib.hid (decide_eq_true i1)
  have I2 : Hid (decide (cry 1 k (cry (-1) k ys) = ys) = true) := Lib.hid (decide_eq_true (by simpa using i2))
  clear i1 i2
  obtain ⟨y1, hy1⟩ : ∃ y1, y1 = cry 1 k ys := ⟨_, rfl⟩
  go_wp2_with fail
  refine (impl_Encrypt k u ys _ hk o2.rd (by omega)).mono ?_
  rintro e w3 ⟨u3, rfl, o3, b3⟩
  have B3 := below_next b2 b3
  have r3 := o2.rd.keep b3
  go_wp2_with fail
  refine (impl_Decrypt k u3 _ _ hk o3.rd (by omega)).mono ?_
  rintro e w4 ⟨u4, rfl, o4, b4⟩
  have B4 := below_next B3 b4
  have r4 := r3.keep b4
  go_wp2_with fail
  refine (laws_sameBytes u4 u _ ys _ o4.rd r4).mono ?_
  rintro e w5 ⟨rfl, b5⟩
  rw [I1.out]
  have B5 := below_next B4 b5
  have r5 := r4.keep b5
  go_wp2_with fail
  refine (impl_Decrypt k u ys _ hk r5 (by omega)).mono ?_
  rintro e w6 ⟨u6, rfl, o6, b6⟩
  have B6 := below_next B5 b6
  have r6 := r5.keep b6
  go_wp2_with fail
  refine (impl_Encrypt k u6 _ _ hk o6.rd (by omega)).mono ?_
  rintro e w7 ⟨u7, rfl, o7, b7⟩
  have B7 := below_next B6 b7
  have r7 := r6.keep b7
  go_wp2_with fail
  refine (laws_sameBytes u7 u _ ys _ o7.rd r7).mono ?_
  rintro e w8 ⟨rfl, b8⟩
  rw [I2.out]
  have B8 := below_next B7 b8
  have r8 := r7.keep b8
  go_wp2_with fail
  refine (impl_Encrypt k u ys _ hk r8 (by omega)).mono ?_
  rintro e w9 ⟨u9, rfl, o9, b9⟩
  have B9 := below_next B8 b9
  obtain ⟨a9, c9, rfl⟩ := o9.rd.shape
  have r9 := r8.keep b9
  obtain ⟨a2, c2, rfl⟩ := r9.shape
  rw [l1]
  go_wp2
  go_ret
  exact ⟨ret_bool (by simp), B9⟩

set_option maxRecDepth 100000 in
theorem lifted (os : Os) (started : os.Started) (H : Type) (enc : TypeId × Value → H) :
    ReturnsInHanded {} Try.checked os 7 .any (Rows.fnCipherSpec.pre6 enc Try.prog Try.f7 Rows.fnCipherRow.domain false) (Rows.fnCipherSpec.post enc Try.prog Try.f7 false true false false) := by
  refine returnsInHanded_of_change (C := Try.checked) own started (by kernel_rfl) Try.func7
    (ChangeSpec.witness6 (enc := enc) (C := Try.checked) false ⟨#[], #[.slice none 0 0], []⟩ 8 (by kernel_rfl) (by kernel_rfl) (by kernel_rfl) (by kernel_rfl)) ?_
  intro W base args ds gs before hval0 hW hcnd _
  have hval : ∀ (j : Nat) t v, Try.f7.params[j]? = some t → args[j]? = some v → Value.okWide Try.prog W .any base t v := hval0
  have hW' := hW
  obtain ⟨p, q, hA0, hV, rfl, hfz, hnd⟩ := hW
  have hA : DataW.TrodAll enc Try.prog W 0 (fun _ => true) true Try.f7.params.toList args.toList ds p := hA0
  rw [Try.params7] at hA hval
  obtain ⟨v0, vs0, d0, ds0, p0, q0, hargs, rfl, rfl, h0, r0⟩ := trodAll_cons hA
  obtain ⟨rfl, rfl, rfl⟩ := trodAll_nil r0
  obtain rfl : args = #[v0] := by cases args; simp_all
  obtain ⟨rfl, rfl⟩ := trodVars_none hV
  obtain ⟨a0, len0, cap0, rfl⟩ := okWide_slice Try.underlying24 (hval 0 24 v0 rfl rfl)
  have k0 := h0
  have lt0 : ∀ x ∈ p0, x.block < W.heap.size := by obtain ⟨m, hm⟩ := k0; exact DataW.trod_lt m _ _ _ hm
  obtain ⟨z0, w0⟩ : ∃ zs, Rd .u8 W (.slice a0 len0 cap0) zs := by
    obtain ⟨fuel, hf⟩ := h0
    rcases open_ints Try.underlying24 Try.underlying5 (by kernel_rfl) hf with ⟨hcs, _⟩ | ⟨x, l, c, zs, hcs, _, hl, hm, hz, _, hcell, hwz⟩
    · simp [Value.cells] at hcs
      obtain ⟨rfl, rfl, rfl⟩ := hcs
      exact ⟨[], Rd.nil _ _⟩
    · simp [Value.cells] at hcs
      obtain ⟨rfl, rfl, rfl⟩ := hcs
      exact ⟨zs.take len0, Rd.of_row hl hm (by simpa using hz) hcell hwz⟩
  clear hA0 hval0
  refine (walk z0 W w0).mono fun e W' ⟨he, bel⟩ => ?_
  subst he
  exact ⟨_, rfl, _, _, _, [], _, [], hW', trodAll_mk1 (shut_bool Try.underlying4 _), (trodAll_cons_mk (Below.trod laidOut (by kernel_rfl) (of_decide_eq_true (by kernel_rfl)) k0 bel lt0) trodAll_mk0), rfl, bel.frame _, fun h => by cases h⟩

theorem over : Rows.fnCipherRow.holds Try.pinned (OpenSpec.ofChange Rows.fnCipherSpec) :=
  OpenClaim.holds_of_wide 7 Try.f7 rfl rfl rfl rfl rfl rfl rfl ⟨rfl, rfl, rfl, rfl, rfl⟩ rfl rfl rfl rfl rfl (by kernel_rfl) Try.func7 (by kernel_rfl)
    (of_decide_eq_true (by kernel_rfl)) (by unfold Func.isWrapper; first | (rw [if_pos (by decide +kernel)]; kernel_rfl) | (rw [if_neg (by decide +kernel)]; exact ⟨rfl, rfl⟩))
    (fun os started H enc _ => lifted os started H enc)

theorem proved : Rows.FnCipherSaid := over
#print axioms proved
end Go.Proofs.Ytdgffiaciccimaa.fnCipher


/- FnKeyedHash: for every input the law's Go function returns true and leaves its arguments as they were. Conditions: none. -/
import Derived.Test.YtdgffiaciccimaaRows
import Derived.WalkKit
import Derived.ProofKit
import Derived.OpenShut
import Derived.ShutString
import Derived.ChangeOld
import Derived.Below
import Derived.Test.YtdgffiaciccimaaCEqual
import Derived.Test.YtdgffiaciccimaaCBig
import Derived.Test.YtdgffiaciccimaaCDrawD
import Derived.Test.YtdgffiaciccimaaCKhLaw
import Derived.Test.YtdgffiaciccimaaCDer
import Derived.Test.YtdgffiaciccimaaCIn
import Derived.Test.YtdgffiaciccimaaCAppG
import Derived.IntWalk
namespace Go.Proofs.Ytdgffiaciccimaa.fnKeyedHash
open Go.ChangeShapes Go.WideShapes Go.ChangeAt Go.RowKit
open Go.ChangeMaps (open_string shut_string)
set_option linter.unusedVariables false

theorem own : ownKnob Try.prog.godebug = none := by kernel_rfl
theorem laidOut : laidOutB Try.prog = true := by kernel_rfl


theorem drv_ok (key : Int) (s : ByteArray) : 1 ≤ drv key s ∧ drv key s ≤ 2147483646 := by
  unfold drv
  have h := khsh_bd key ((s.size : Int) :: sL s)
  generalize khsh key ((s.size : Int) :: sL s) = x at h
  unfold keyL; split <;> omega
theorem impl_valid (key : Int) (w : World) (h : 1 ≤ key ∧ key ≤ 2147483646) :
    Calls Try.prog 38 #[.int .i64 key] w fun e w' => e = .returned (.bool true) ∧ w = w' := by
  have C := Lib.hid (impl_in_yes key 1 2147483646 w h)
  obtain ⟨h0, h1⟩ := h
  go_enter Try.func38, Try.ntmps38
  go_wp2_with fail
  refine C.out.mono ?_
  rintro e w1 ⟨rfl, rfl⟩
  go_wp2
  go_ret
  exact ⟨rfl, rfl⟩
set_option maxRecDepth 100000 in
set_option maxHeartbeats 1600000 in
theorem walk {v0 : Value} (z0 : List Int) (w : World) (w0 : Rd .u8 w v0 z0) :
    Calls Try.prog 9 #[v0] w fun e w' => e = .returned (.bool true) ∧ Below w.heap.size w w' := by
  have q0 := w0.b
  have len0 := w0.len_le
  by_cases big0 : 1048576 < z0.length
  · have HB := Lib.hid (laws_big v0 z0 w w0)
    rw [decide_eq_true big0] at HB
    obtain ⟨ad0, c0, rfl⟩ := w0.shape
    clear w0 q0
    go_enter Try.func9, Try.ntmps9
    go_wp2_with fail
    refine HB.out.mono ?_
    rintro e w1 ⟨rfl, rfl⟩
    go_wp2
    go_ret
    exact ⟨rfl, Below.refl _ _⟩
  have HB := Lib.hid (laws_big v0 z0 w w0)
  rw [decide_eq_false big0] at HB
  obtain ⟨ad0, c0, rfl⟩ := w0.shape
  have le0 : z0.length ≤ 1048576 := by omega
  clear big0
  go_enter Try.func9, Try.ntmps9
  go_wp2_with fail
  refine HB.out.mono ?_
  rintro e w1 ⟨rfl, rfl⟩
  clear HB
  go_wp2_with fail
  refine (DrawKeyedHash _ z0 _ w0 (by omega)).mono ?_
  rintro e w2 ⟨⟨k, u, ys, rfl, ⟨k0, k1⟩, o2, hy, hye⟩, b2⟩
  have HYE := Lib.hid hye
  clear hye
  have s2 := b2.size
  have hk : -9223372036854775808 ≤ k ∧ k ≤ 9223372036854775807 := by omega
  have hwk : (Lit.int .i64 k).wf = true := WalkArith.wf_i64 hk
  obtain ⟨h0, h1⟩ := khsh_bd k ys
  have CK := fun W (h : Rd .i64 W u ys) => impl_KeyedHash k u ys W hk h (by omega)
  have CH := fun W v (h : Rd .i64 W v ([k] ++ ys ++ [k])) => impl_Hash v _ W h
  change ∀ W v, Rd .i64 W v ([k] ++ ys ++ [k]) → Calls Try.prog 35 #[v] W fun e w' => e = .returned (.int .i64 (khsh k ys)) ∧ Below W.heap.size W w' at CH
  have HT : Hid (∀ i a : Nat, i < ys.length → a < 256 → ((khsh k (ys.set i ((ys.getD i 0 + 1 + (a : Int)) % 2147483647)) == khsh k ys) = false)) :=
    Lib.hid fun i a hi ha => by have := khsh_set (key := k) hi (turned (ys.getD i 0) ha); simpa using this
  obtain ⟨h, hh⟩ : ∃ h, h = khsh k ys := ⟨_, rfl⟩
  rw [← hh] at h0 h1 CK CH HT
  have KK := Lib.hid CK
  have KH := Lib.hid CH
  clear hh CK CH
  have d0 : decide (h < 0) = false := by simp; omega
  have d1 : decide (2147483647 ≤ h) = false := by simp; omega
  obtain ⟨ad2, c2, rfl⟩ := o2.rd.shape
  go_wp2_with fail
  refine (KK.out _ o2.rd).mono ?_
  rintro e w3 ⟨rfl, b3⟩
  have B3 := below_next b2 b3
  have r3 := o2.rd.keep b3
  have s3 := B3.size
  go_wp2_with (at_builtin; refine wpList_appG _ (by rfl) (.tmp 29) (.tmp 30) 36 rfl w3.heap.size 3 .i64 8 Try.underlying36 info64 (by omega) _ _ [k] ys rfl rfl (own_lit1 _ _ (Nat.le_refl _) hwk) (r3.keep ((Below.refl _ _).alloc (Nat.le_refl _) _)) (by simp; omega) (by simp) ?_)
  intro v4 w4 o4 b4
  have b4' : Below w3.heap.size w3 w4 := ((Below.refl _ _).alloc (Nat.le_refl _) _).trans b4
  have B4 := below_next B3 b4'
  have s4 := b4'.size
  clear b4
  go_wp2_with (at_builtin; refine wpList_appG _ (by rfl) (.tmp 31) (.tmp 33) 36 rfl w3.heap.size 3 .i64 8 Try.underlying36 info64 (by omega) _ _ _ [k] rfl rfl (o4.alloc _) (rd_lit1 _ _ hwk) (by simp; omega) (by simp; omega) ?_)
  intro v5 w5 o5 b5
  have b5' : Below w3.heap.size w3 w5 := (b4'.alloc s4 _).trans b5
  clear b5 b4' s4 B4
  go_wp2_with fail
  refine (KH.out _ _ o5.rd).mono ?_
  rintro e w6 ⟨rfl, b6⟩
  have b6' : Below w3.heap.size w3 w6 := below_next b5' b6
  have B6 := below_next B3 b6'
  have r6 := r3.keep b6'
  have s6 := B6.size
  clear b5' b6 b6' o4 o5 r3 B3 b3 s3 KH
  by_cases hp : 0 < ys.length
  · go_wp2_with (at_builtin; refine wpList_app _ rfl (.tmp 41) (.tmp 42) 36 rfl w6.heap.size 3 .i64 8 Try.underlying36 info64 (by omega) _ _ [] ys rfl rfl (own_lit0 _ (Nat.le_refl _)) (r6.keep ((Below.refl _ _).alloc (Nat.le_refl _) _)) (by simp; omega) (by simp) ?_)
    intro v7 w7 o7 b7
    have b7' : Below w6.heap.size w6 w7 := ((Below.refl _ _).alloc (Nat.le_refl _) _).trans b7
    have B7 := below_next B6 b7'
    rcases o7.parts with ⟨h0, _⟩ | ⟨_, g, c7, rfl⟩
    · rw [h0] at hp; simp at hp
    go_wp2_with fail
    refine (laws_at _ z0 0 _ (w0.keep B7) (by omega) le0).mono ?_
    rintro e w8 ⟨rfl, rfl⟩
    have ha0 := atN_lt w0.wf 0
    have ha1 := atN_lt w0.wf 1
    have CA : Hid (∀ W, Below w.heap.size w W → Calls Try.prog 25 #[.slice ad0 z0.length c0, .int .i64 1] W fun e w' => e = .returned (.int .i64 ((atN z0 1 : Nat) : Int)) ∧ W = w') := Lib.hid (fun W h => laws_at _ z0 1 W (w0.keep h) (by omega) le0)
    generalize atN z0 0 = a0 at ha0 ⊢
    generalize atN z0 1 = a1 at ha1 CA
    have hi : a0 % ys.length < ys.length := Nat.mod_lt _ hp
    have HI := Lib.hid (show ((a0 % ys.length : Nat) : Int) = (a0 : Int) % (ys.length : Int) from Int.natCast_emod _ _)
    go_wp2_with fail
    rw [← HI.out]
    clear HI
    generalize a0 % ys.length = i at hi ⊢
    have hcell := o7.cell hi
    have hfz := o7.frozen i
    have hxb := HYE.out _ (mem_getD hi rfl)
    have hne := HT.out i a1 hi ha1
    have hst := o7.stored (j := i) (x := (ys.getD i 0 + 1 + (a1 : Int)) % 2147483647) (WalkArith.wf_i64 (by
      have e1 := Int.emod_nonneg (ys.getD i 0 + 1 + (a1 : Int)) (show (2147483647 : Int) ≠ 0 by decide)
      have e2 := Int.emod_lt_of_pos (ys.getD i 0 + 1 + (a1 : Int)) (show (0 : Int) < 2147483647 by decide)
      generalize (ys.getD i 0 + 1 + (a1 : Int)) % 2147483647 = z at e1 e2 ⊢
      omega))
    have CM := Lib.hid (fun W => spec_modM (ys.getD i 0 + 1 + (a1 : Int)) W (by omega))
    have CK := fun W (hr : Rd .i64 W (.slice (some ⟨g, 0, none⟩) ys.length c7) (ys.set i ((ys.getD i 0 + 1 + (a1 : Int)) % 2147483647))) => impl_KeyedHash k _ _ W hk hr (by simp; omega)
    generalize ys.getD i 0 = x at hcell hxb hne hst CM CK
    generalize (x + 1 + (a1 : Int)) % 2147483647 = z at hne hst CM CK
    generalize khsh k (ys.set i z) = h' at hne CK
    have K2 := Lib.hid CK
    clear CK
    have HON := hst.2
    have HST := Lib.hid hst.1
    have s7 := b7'.size
    have B8 : Below w.heap.size w (w7.setCell ⟨g, i, none⟩ (.int .i64 z)) := B7.trans (HON.below (by omega) (by omega))
    clear hst HON HT HYE o7
    have E1 : IntKind.i64.wrap (x + 1) = x + 1 := IntWalk.i64_in _ (by omega)
    have E2 : IntKind.i64.wrap (x + 1 + (a1 : Int)) = x + 1 + (a1 : Int) := IntWalk.i64_in _ (by omega)
    have hi1 : (i : Int) < (ys.length : Int) := by omega
    go_region_with (first | (go_at_call 25; (with_reducible refine (CA.out _ ?_).mono ?_); (first | exact B7 | exact B7.drew); rintro e w8 ⟨rfl, rfl⟩) | (go_at_call 36; (with_reducible refine (CM.out _).mono ?_); rintro e w8 ⟨rfl, rfl⟩))
    all_goals
      clear E1 E2
      go_wp2_with fail
      refine (K2.out _ (by exact HST.out.rd)).mono ?_
      rintro e w10 ⟨rfl, b10⟩
      have B10 : Below w.heap.size w w10 := below_next (by first | exact B8 | exact B8.drew) b10
      go_wp2_with fail
      refine (DrawDeriveFromString _ z0 _ (w0.keep B10) (by omega)).mono ?_
      rintro e w12 ⟨⟨key, str, rfl, ⟨e0, e1⟩, hstr⟩, b12⟩
      have B12 := below_next B10 b12
      go_wp2_with fail
      refine (impl_DeriveFromString key str _ (by omega) (by unfold maxLen; omega) (by omega)).mono ?_
      rintro e w13 ⟨rfl, b13⟩
      have B13 := below_next B12 b13
      go_wp2_with fail
      refine (impl_valid _ _ (drv_ok key str)).mono ?_
      rintro e w14 ⟨rfl, rfl⟩
      go_wp2
      go_ret
      exact ⟨rfl, B13⟩
  · obtain rfl : ys = [] := List.eq_nil_of_length_eq_zero (by omega)
    clear hp
    go_wp2_with fail
    refine (DrawDeriveFromString _ z0 _ (w0.keep B6) (by omega)).mono ?_
    rintro e w12 ⟨⟨key, str, rfl, ⟨e0, e1⟩, hstr⟩, b12⟩
    have B12 := below_next B6 b12
    go_wp2_with fail
    refine (impl_DeriveFromString key str _ (by omega) (by unfold maxLen; omega) (by omega)).mono ?_
    rintro e w13 ⟨rfl, b13⟩
    have B13 := below_next B12 b13
    go_wp2_with fail
    refine (impl_valid _ _ (drv_ok key str)).mono ?_
    rintro e w14 ⟨rfl, rfl⟩
    go_wp2
    go_ret
    exact ⟨rfl, B13⟩
set_option maxRecDepth 100000 in
theorem lifted (os : Os) (started : os.Started) (H : Type) (enc : TypeId × Value → H) :
    ReturnsInHanded {} Try.checked os 9 .any (Rows.fnKeyedHashSpec.pre6 enc Try.prog Try.f9 Rows.fnKeyedHashRow.domain false) (Rows.fnKeyedHashSpec.post enc Try.prog Try.f9 false true false false) := by
  refine returnsInHanded_of_change (C := Try.checked) own started (by kernel_rfl) Try.func9
    (ChangeSpec.witness6 (enc := enc) (C := Try.checked) false ⟨#[], #[.slice none 0 0], []⟩ 8 (by kernel_rfl) (by kernel_rfl) (by kernel_rfl) (by kernel_rfl)) ?_
  intro W base args ds gs before hval0 hW hcnd _
  have hval : ∀ (j : Nat) t v, Try.f9.params[j]? = some t → args[j]? = some v → Value.okWide Try.prog W .any base t v := hval0
  have hW' := hW
  obtain ⟨p, q, hA0, hV, rfl, hfz, hnd⟩ := hW
  have hA : DataW.TrodAll enc Try.prog W 0 (fun _ => true) true Try.f9.params.toList args.toList ds p := hA0
  rw [Try.params9] at hA hval
  obtain ⟨v0, vs0, d0, ds0, p0, q0, hargs, rfl, rfl, h0, r0⟩ := trodAll_cons hA
  obtain ⟨rfl, rfl, rfl⟩ := trodAll_nil r0
  obtain rfl : args = #[v0] := by cases args; simp_all
  obtain ⟨rfl, rfl⟩ := trodVars_none hV
  obtain ⟨a0, len0, cap0, rfl⟩ := okWide_slice Try.underlying24 (hval 0 24 v0 rfl rfl)
  have k0 := h0
  have lt0 : ∀ x ∈ p0, x.block < W.heap.size := by obtain ⟨m, hm⟩ := k0; exact DataW.trod_lt m _ _ _ hm
  obtain ⟨z0, w0⟩ : ∃ zs, Rd .u8 W (.slice a0 len0 cap0) zs := by
    obtain ⟨fuel, hf⟩ := h0
    rcases open_ints Try.underlying24 Try.underlying5 (by kernel_rfl) hf with ⟨hcs, _⟩ | ⟨x, l, c, zs, hcs, _, hl, hm, hz, _, hcell, hwz⟩
    · simp [Value.cells] at hcs
      obtain ⟨rfl, rfl, rfl⟩ := hcs
      exact ⟨[], Rd.nil _ _⟩
    · simp [Value.cells] at hcs
      obtain ⟨rfl, rfl, rfl⟩ := hcs
      exact ⟨zs.take len0, Rd.of_row hl hm (by simpa using hz) hcell hwz⟩
  clear hA0 hval0
  refine (walk z0 W w0).mono fun e W' ⟨he, bel⟩ => ?_
  subst he
  exact ⟨_, rfl, _, _, _, [], _, [], hW', trodAll_mk1 (shut_bool Try.underlying4 _), (trodAll_cons_mk (Below.trod laidOut (by kernel_rfl) (of_decide_eq_true (by kernel_rfl)) k0 bel lt0) trodAll_mk0), rfl, bel.frame _, fun h => by cases h⟩

theorem over : Rows.fnKeyedHashRow.holds Try.pinned (OpenSpec.ofChange Rows.fnKeyedHashSpec) :=
  OpenClaim.holds_of_wide 9 Try.f9 rfl rfl rfl rfl rfl rfl rfl ⟨rfl, rfl, rfl, rfl, rfl⟩ rfl rfl rfl rfl rfl (by kernel_rfl) Try.func9 (by kernel_rfl)
    (of_decide_eq_true (by kernel_rfl)) (by unfold Func.isWrapper; first | (rw [if_pos (by decide +kernel)]; kernel_rfl) | (rw [if_neg (by decide +kernel)]; exact ⟨rfl, rfl⟩))
    (fun os started H enc _ => lifted os started H enc)

theorem proved : Rows.FnKeyedHashSaid := over
#print axioms proved
end Go.Proofs.Ytdgffiaciccimaa.fnKeyedHash


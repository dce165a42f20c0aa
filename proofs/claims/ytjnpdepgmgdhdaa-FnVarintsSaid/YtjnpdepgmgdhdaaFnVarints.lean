/- FnVarints: for every input the law's Go function returns true and leaves its arguments as they were. Conditions: none. -/
import Derived.Test.YtjnpdepgmgdhdaaRows
import Derived.WalkKit
import Derived.ProofKit
import Derived.OpenShut
import Derived.ShutString
import Derived.ChangeOld
import Derived.Below
import Derived.Test.YtjnpdepgmgdhdaaCEqual
import Derived.Test.YtjnpdepgmgdhdaaCBig
import Derived.Test.YtjnpdepgmgdhdaaCDrawF
import Derived.Test.YtjnpdepgmgdhdaaCVarLaw
import Derived.IntWalk
import Derived.Deep.RegionHeld3
namespace Go.Proofs.Ytjnpdepgmgdhdaa.fnVarints
open Go.ChangeShapes Go.WideShapes Go.ChangeAt Go.RowKit
open Go.ChangeMaps (open_string shut_string)
set_option linter.unusedVariables false

theorem own : ownKnob Try.prog.godebug = none := by kernel_rfl
theorem laidOut : laidOutB Try.prog = true := by kernel_rfl


theorem auv_out {xs : List Int} {n : Int} (h : ¬ (0 ≤ n ∧ n ≤ 1000000000000)) : auv xs n = xs := if_neg h
theorem ru_end (xs : List Int) : ru xs xs.length = (0, 0, false) := by
  unfold ru
  rw [if_neg (by omega), Int.toNat_natCast]
  exact ruL_out (by omega)
theorem ru_app {xs : List Int} {n : Int} (h : 0 ≤ n ∧ n ≤ 1000000000000) : ru (auv xs n) xs.length = (n, ((auv xs n).length : Int), true) := by
  have e := ru_uv (n := n.toNat) xs [] (by omega)
  rw [List.append_nil] at e
  rw [auv_in h, e, Int.toNat_of_nonneg h.1]
  simp
theorem same_yes (T : List Int) (W : World) (v u : Value) (h : Rd .u8 W v T) (k : Rd .u8 W u T) : Calls Try.prog 33 #[v, u] W fun e w' => e = .returned (.bool true) ∧ Below W.heap.size W w' :=
  (laws_sameBytes v u T T W h k).mono fun e w' q => ⟨by rw [q.1, decide_eq_true (rfl : T = T)], q.2⟩
theorem rd_empty (k : IntKind) (W : World) (a : Addr) : Rd k W (.slice (some a) 0 0) [] := ⟨by simp, .inl ⟨rfl, some a, 0, rfl, Nat.zero_le _, fun _ => rfl⟩⟩
set_option maxRecDepth 100000 in
set_option maxHeartbeats 400000 in
theorem walk {v0 : Value} (z0 : List Int) (w : World) (w0 : Rd .u8 w v0 z0) :
    Calls Try.prog 10 #[v0] w fun e w' => e = .returned (.bool true) ∧ Below w.heap.size w w' := by
  have q0 := w0.b
  have len0 := w0.len_le
  by_cases big0 : 1048576 < z0.length
  · have HB := Lib.hid (laws_big v0 z0 w w0)
    rw [decide_eq_true big0] at HB
    obtain ⟨ad0, c0, rfl⟩ := w0.shape
    clear w0 q0
    go_enter Try.func10, Try.ntmps10
    go_wp2_with fail
    refine HB.out.mono ?_
    rintro e w1 ⟨rfl, rfl⟩
    go_wp2
    go_ret
    exact ⟨rfl, Below.refl _ _⟩
  have HB := Lib.hid (laws_big v0 z0 w w0)
  rw [decide_eq_false big0] at HB
  obtain ⟨ad0, c0, rfl⟩ := w0.shape
  have le0 : z0.length ≤ 1048576 := by omega
  clear big0
  go_enter Try.func10, Try.ntmps10
  go_wp2_with fail
  refine HB.out.mono ?_
  rintro e w1 ⟨rfl, rfl⟩
  clear HB
  go_wp2_with fail
  refine (DrawAppendUvarint _ z0 _ w0 (by omega)).mono ?_
  rintro e w2 ⟨⟨n, u, ys, rfl, ⟨hn0, hn1⟩, o2, hy⟩, b2⟩
  obtain ⟨ad2, c2, rfl⟩ := o2.rd.shape
  have r2 := o2.rd
  clear o2
  have hal := auv_len ys n
  have ca := fun W (h : Rd .u8 W _ ys) => impl_AppendUvarint (.slice ad2 ys.length c2) ys n W h (by omega) (by omega)
  have cr := fun W v (h : Rd .u8 W v (auv ys n)) => impl_ReadUvarint v _ (ys.length : Int) W h (by omega) (by omega)
  by_cases hin : 0 ≤ n ∧ n ≤ 1000000000000
  · rw [ru_app hin] at cr
    have d0 : decide (n < 0) = false := by simp; omega
    have d1 : decide (1000000000000 < n) = false := by simp; omega
    clear hin
    generalize auv ys n = X at ca cr hal
    have CA := Lib.hid ca
    have CR := Lib.hid cr
    clear ca cr
    go_wp2_with fail
    refine (CA.out _ r2).mono ?_
    rintro e w3 ⟨v3, rfl, o3, b3⟩
    have B3 := below_next b2 b3
    have r3 := r2.keep b3
    have x3 := o3.rd
    obtain ⟨ad3, c3, rfl⟩ := x3.shape
    clear o3 r2 b2 b3 CA
    go_wp2_with fail
    refine (CR.out _ _ x3).mono ?_
    rintro e w4 ⟨rfl, b4⟩
    have B4 := below_next B3 b4
    have r4 := r3.keep b4
    have x4 := x3.keep b4
    clear r3 x3 B3 b4 CR
    have B5 := B4
    clear r4 x4 B4
    go_wp2_with fail
    refine (DrawReadUvarint _ z0 _ (w0.keep B5) (by omega)).mono ?_
    rintro e w6 ⟨⟨off, v6, ls, rfl, ⟨ho0, ho1⟩, o6, hl⟩, b6⟩
    have B6 := below_next B5 b6
    have r6 := o6.rd
    clear o6 B5 b6
    have ci := fun W (h : Rd .u8 W v6 ls) => impl_ReadUvarint v6 ls off W h (by omega) (by omega)
    have csp := fun W (h : Rd .u8 W v6 ls) => spec_ReadUvarint v6 ls off W h (by omega) (by omega)
    rcases ru_case ls off with h | ⟨m, x, h, h1, h2, h3, h4⟩
    · rw [h] at ci csp
      have CI := Lib.hid ci
      have CS := Lib.hid csp
      clear ci csp h
      obtain ⟨ad6, c6, rfl⟩ := r6.shape
      go_wp2_with fail
      refine (CI.out _ r6).mono ?_
      rintro e w7 ⟨rfl, b7⟩
      have B7 := below_next B6 b7
      have r7 := r6.keep b7
      go_wp2_with fail
      refine (CS.out _ r7).mono ?_
      rintro e w8 ⟨rfl, b8⟩
      have B8 := below_next B7 b8
      go_wp2_with fail
      go_ret
      exact ⟨rfl, B8⟩
    · have hcan := ru_canon r6.wf h
      rw [h] at ci
      have CI := Lib.hid ci
      clear ci csp h
      rcases r6.parts with ⟨h0, -⟩ | ⟨h0, g, of, c6, rfl⟩
      · rw [h0] at h2; simp at h2; omega
      obtain ⟨hc1, hc2⟩ := r6.cap h0
      obtain ⟨o, rfl⟩ := Int.eq_ofNat_of_zero_le h4
      rw [Int.toNat_natCast] at hcan
      have ht := Lib.hid (fun (wr : World) (hb : Below w6.heap.size w6 wr) => r6.sub (j := o) (m := x - o) hb (by omega) (by omega))
      have hun : auv [] (m : Int) = uv m := by rw [auv_in (by omega), Int.toNat_natCast]; rfl
      have cu := fun W v (h : Rd .u8 W v []) => impl_AppendUvarint v [] (m : Int) W h (by omega) (by simp)
      rw [hun, hcan] at cu
      have cs := same_yes ((ls.drop o).take (x - o))
      generalize (ls.drop o).take (x - o) = T at ht cu cs
      have CU := Lib.hid cu
      have CS := Lib.hid cs
      clear hcan hun cu cs
      have i1 : (o : Int) < (x : Int) := by omega
      have i2 : (x : Int) ≤ (ls.length : Int) := by omega
      have i3 : (x : Int) ≤ (c6 : Int) := by omega
      have i4 : ¬ c6 = o := by omega
      have i5 : (o : Int) ≤ (x : Int) := by omega
      clear h1 h2 h3 h4
      go_wp2_with fail
      refine (CI.out _ r6).mono ?_
      rintro e w7 ⟨rfl, b7⟩
      have B7 := below_next B6 b7
      have g0 : (0 : Int) ≤ (o : Int) := by omega
      have g1 : decide ((0 : Int) ≤ (o : Int)) = true := by simp
      have g2 : decide ((x : Int) ≤ (ls.length : Int)) = true := by simp; omega
      have g3 : decide ((o : Int) < (x : Int)) = true := by simp; omega
      clear q0 w0 ho0 ho1 hal
      go_wp2_with fail
      go_region_held3 (fun w' => True) (trivial) (first | (go_at_call 16; refine (CU.out _ _ (rd_empty _ _ _)).mono ?_; rintro e w8 ⟨v8, rfl, o8, b8⟩) | (go_at_call 33; refine (CS.out _ _ _ o8.rd (ht.out _ (below_next b7 (Below.trans (Below.drew ((Below.refl _ _).alloc (Nat.le_refl _) _)) (b8.mono (by simp)))))).mono ?_; rintro e w9 ⟨rfl, b9⟩))
      have B9 : Below w.heap.size w w9 := below_next (below_next B7 (Below.trans (Below.drew ((Below.refl _ _).alloc (Nat.le_refl _) _)) (b8.mono (by simp)))) b9
      go_wp2_with fail
      go_ret
      exact ⟨rfl, B9⟩
  · rw [auv_out hin, ru_end] at cr
    rw [auv_out hin] at ca hal
    have CS1 : Hid (∀ W v u, Rd .u8 W v ys → Rd .u8 W u ys → Calls Try.prog 33 #[v, u] W fun e w' => e = .returned (.bool true) ∧ Below W.heap.size W w') :=
      Lib.hid (same_yes ys)
    rcases (show n < 0 ∨ (0 ≤ n ∧ 1000000000000 < n) by omega) with hb | ⟨hb1, hb2⟩
    · have d0 : decide (n < 0) = true := by simp; omega
      clear hin

      have CA := Lib.hid ca
      have CR := Lib.hid cr
      clear ca cr
      go_wp2_with fail
      refine (CA.out _ r2).mono ?_
      rintro e w3 ⟨v3, rfl, o3, b3⟩
      have B3 := below_next b2 b3
      have r3 := r2.keep b3
      have x3 := o3.rd
      obtain ⟨ad3, c3, rfl⟩ := x3.shape
      clear o3 r2 b2 b3 CA
      go_wp2_with fail
      refine (CR.out _ _ x3).mono ?_
      rintro e w4 ⟨rfl, b4⟩
      have B4 := below_next B3 b4
      have r4 := r3.keep b4
      have x4 := x3.keep b4
      clear r3 x3 B3 b4 CR

      go_wp2_with fail
      refine (CS1.out _ _ _ x4 r4).mono ?_
      rintro e w5 ⟨rfl, b5⟩
      have B5 := below_next B4 b5
      clear r4 x4 B4 b5 CS1
      go_wp2_with fail

      refine (DrawReadUvarint _ z0 _ (w0.keep B5) (by omega)).mono ?_
      rintro e w6 ⟨⟨off, v6, ls, rfl, ⟨ho0, ho1⟩, o6, hl⟩, b6⟩
      have B6 := below_next B5 b6
      have r6 := o6.rd
      clear o6 B5 b6
      have ci := fun W (h : Rd .u8 W v6 ls) => impl_ReadUvarint v6 ls off W h (by omega) (by omega)
      have csp := fun W (h : Rd .u8 W v6 ls) => spec_ReadUvarint v6 ls off W h (by omega) (by omega)
      rcases ru_case ls off with h | ⟨m, x, h, h1, h2, h3, h4⟩
      · rw [h] at ci csp
        have CI := Lib.hid ci
        have CS := Lib.hid csp
        clear ci csp h
        obtain ⟨ad6, c6, rfl⟩ := r6.shape
        go_wp2_with fail
        refine (CI.out _ r6).mono ?_
        rintro e w7 ⟨rfl, b7⟩
        have B7 := below_next B6 b7
        have r7 := r6.keep b7
        go_wp2_with fail
        refine (CS.out _ r7).mono ?_
        rintro e w8 ⟨rfl, b8⟩
        have B8 := below_next B7 b8
        go_wp2_with fail
        go_ret
        exact ⟨rfl, B8⟩
      · have hcan := ru_canon r6.wf h
        rw [h] at ci
        have CI := Lib.hid ci
        clear ci csp h
        rcases r6.parts with ⟨h0, -⟩ | ⟨h0, g, of, c6, rfl⟩
        · rw [h0] at h2; simp at h2; omega
        obtain ⟨hc1, hc2⟩ := r6.cap h0
        obtain ⟨o, rfl⟩ := Int.eq_ofNat_of_zero_le h4
        rw [Int.toNat_natCast] at hcan
        have ht := Lib.hid (fun (wr : World) (hb : Below w6.heap.size w6 wr) => r6.sub (j := o) (m := x - o) hb (by omega) (by omega))
        have hun : auv [] (m : Int) = uv m := by rw [auv_in (by omega), Int.toNat_natCast]; rfl
        have cu := fun W v (h : Rd .u8 W v []) => impl_AppendUvarint v [] (m : Int) W h (by omega) (by simp)
        rw [hun, hcan] at cu
        have cs := same_yes ((ls.drop o).take (x - o))
        generalize (ls.drop o).take (x - o) = T at ht cu cs
        have CU := Lib.hid cu
        have CS := Lib.hid cs
        clear hcan hun cu cs
        have i1 : (o : Int) < (x : Int) := by omega
        have i2 : (x : Int) ≤ (ls.length : Int) := by omega
        have i3 : (x : Int) ≤ (c6 : Int) := by omega
        have i4 : ¬ c6 = o := by omega
        have i5 : (o : Int) ≤ (x : Int) := by omega
        clear h1 h2 h3 h4
        go_wp2_with fail
        refine (CI.out _ r6).mono ?_
        rintro e w7 ⟨rfl, b7⟩
        have B7 := below_next B6 b7
        have g0 : (0 : Int) ≤ (o : Int) := by omega
        have g1 : decide ((0 : Int) ≤ (o : Int)) = true := by simp
        have g2 : decide ((x : Int) ≤ (ls.length : Int)) = true := by simp; omega
        have g3 : decide ((o : Int) < (x : Int)) = true := by simp; omega
        clear q0 w0 ho0 ho1 hal
        go_wp2_with fail
        go_region_held3 (fun w' => True) (trivial) (first | (go_at_call 16; refine (CU.out _ _ (rd_empty _ _ _)).mono ?_; rintro e w8 ⟨v8, rfl, o8, b8⟩) | (go_at_call 33; refine (CS.out _ _ _ o8.rd (ht.out _ (below_next b7 (Below.trans (Below.drew ((Below.refl _ _).alloc (Nat.le_refl _) _)) (b8.mono (by simp)))))).mono ?_; rintro e w9 ⟨rfl, b9⟩))
        have B9 : Below w.heap.size w w9 := below_next (below_next B7 (Below.trans (Below.drew ((Below.refl _ _).alloc (Nat.le_refl _) _)) (b8.mono (by simp)))) b9
        go_wp2_with fail
        go_ret
        exact ⟨rfl, B9⟩
    · have d0 : decide (n < 0) = false := by simp; omega
      have d1 : decide (1000000000000 < n) = true := by simp; omega
      clear hin

      have CA := Lib.hid ca
      have CR := Lib.hid cr
      clear ca cr
      go_wp2_with fail
      refine (CA.out _ r2).mono ?_
      rintro e w3 ⟨v3, rfl, o3, b3⟩
      have B3 := below_next b2 b3
      have r3 := r2.keep b3
      have x3 := o3.rd
      obtain ⟨ad3, c3, rfl⟩ := x3.shape
      clear o3 r2 b2 b3 CA
      go_wp2_with fail
      refine (CR.out _ _ x3).mono ?_
      rintro e w4 ⟨rfl, b4⟩
      have B4 := below_next B3 b4
      have r4 := r3.keep b4
      have x4 := x3.keep b4
      clear r3 x3 B3 b4 CR

      go_wp2_with fail
      refine (CS1.out _ _ _ x4 r4).mono ?_
      rintro e w5 ⟨rfl, b5⟩
      have B5 := below_next B4 b5
      clear r4 x4 B4 b5 CS1
      go_wp2_with fail

      refine (DrawReadUvarint _ z0 _ (w0.keep B5) (by omega)).mono ?_
      rintro e w6 ⟨⟨off, v6, ls, rfl, ⟨ho0, ho1⟩, o6, hl⟩, b6⟩
      have B6 := below_next B5 b6
      have r6 := o6.rd
      clear o6 B5 b6
      have ci := fun W (h : Rd .u8 W v6 ls) => impl_ReadUvarint v6 ls off W h (by omega) (by omega)
      have csp := fun W (h : Rd .u8 W v6 ls) => spec_ReadUvarint v6 ls off W h (by omega) (by omega)
      rcases ru_case ls off with h | ⟨m, x, h, h1, h2, h3, h4⟩
      · rw [h] at ci csp
        have CI := Lib.hid ci
        have CS := Lib.hid csp
        clear ci csp h
        obtain ⟨ad6, c6, rfl⟩ := r6.shape
        go_wp2_with fail
        refine (CI.out _ r6).mono ?_
        rintro e w7 ⟨rfl, b7⟩
        have B7 := below_next B6 b7
        have r7 := r6.keep b7
        go_wp2_with fail
        refine (CS.out _ r7).mono ?_
        rintro e w8 ⟨rfl, b8⟩
        have B8 := below_next B7 b8
        go_wp2_with fail
        go_ret
        exact ⟨rfl, B8⟩
      · have hcan := ru_canon r6.wf h
        rw [h] at ci
        have CI := Lib.hid ci
        clear ci csp h
        rcases r6.parts with ⟨h0, -⟩ | ⟨h0, g, of, c6, rfl⟩
        · rw [h0] at h2; simp at h2; omega
        obtain ⟨hc1, hc2⟩ := r6.cap h0
        obtain ⟨o, rfl⟩ := Int.eq_ofNat_of_zero_le h4
        rw [Int.toNat_natCast] at hcan
        have ht := Lib.hid (fun (wr : World) (hb : Below w6.heap.size w6 wr) => r6.sub (j := o) (m := x - o) hb (by omega) (by omega))
        have hun : auv [] (m : Int) = uv m := by rw [auv_in (by omega), Int.toNat_natCast]; rfl
        have cu := fun W v (h : Rd .u8 W v []) => impl_AppendUvarint v [] (m : Int) W h (by omega) (by simp)
        rw [hun, hcan] at cu
        have cs := same_yes ((ls.drop o).take (x - o))
        generalize (ls.drop o).take (x - o) = T at ht cu cs
        have CU := Lib.hid cu
        have CS := Lib.hid cs
        clear hcan hun cu cs
        have i1 : (o : Int) < (x : Int) := by omega
        have i2 : (x : Int) ≤ (ls.length : Int) := by omega
        have i3 : (x : Int) ≤ (c6 : Int) := by omega
        have i4 : ¬ c6 = o := by omega
        have i5 : (o : Int) ≤ (x : Int) := by omega
        clear h1 h2 h3 h4
        go_wp2_with fail
        refine (CI.out _ r6).mono ?_
        rintro e w7 ⟨rfl, b7⟩
        have B7 := below_next B6 b7
        have g0 : (0 : Int) ≤ (o : Int) := by omega
        have g1 : decide ((0 : Int) ≤ (o : Int)) = true := by simp
        have g2 : decide ((x : Int) ≤ (ls.length : Int)) = true := by simp; omega
        have g3 : decide ((o : Int) < (x : Int)) = true := by simp; omega
        clear q0 w0 ho0 ho1 hal
        go_wp2_with fail
        go_region_held3 (fun w' => True) (trivial) (first | (go_at_call 16; refine (CU.out _ _ (rd_empty _ _ _)).mono ?_; rintro e w8 ⟨v8, rfl, o8, b8⟩) | (go_at_call 33; refine (CS.out _ _ _ o8.rd (ht.out _ (below_next b7 (Below.trans (Below.drew ((Below.refl _ _).alloc (Nat.le_refl _) _)) (b8.mono (by simp)))))).mono ?_; rintro e w9 ⟨rfl, b9⟩))
        have B9 : Below w.heap.size w w9 := below_next (below_next B7 (Below.trans (Below.drew ((Below.refl _ _).alloc (Nat.le_refl _) _)) (b8.mono (by simp)))) b9
        go_wp2_with fail
        go_ret
        exact ⟨rfl, B9⟩
set_option maxRecDepth 100000 in
theorem lifted (os : Os) (started : os.Started) (H : Type) (enc : TypeId × Value → H) :
    ReturnsInHanded {} Try.checked os 10 .any (Rows.fnVarintsSpec.pre6 enc Try.prog Try.f10 Rows.fnVarintsRow.domain false) (Rows.fnVarintsSpec.post enc Try.prog Try.f10 false true false false) := by
  refine returnsInHanded_of_change (C := Try.checked) own started (by kernel_rfl) Try.func10
    (ChangeSpec.witness6 (enc := enc) (C := Try.checked) false ⟨#[], #[.slice none 0 0], []⟩ 8 (by kernel_rfl) (by kernel_rfl) (by kernel_rfl) (by kernel_rfl)) ?_
  intro W base args ds gs before hval0 hW hcnd _
  have hval : ∀ (j : Nat) t v, Try.f10.params[j]? = some t → args[j]? = some v → Value.okWide Try.prog W .any base t v := hval0
  have hW' := hW
  obtain ⟨p, q, hA0, hV, rfl, hfz, hnd⟩ := hW
  have hA : DataW.TrodAll enc Try.prog W 0 (fun _ => true) true Try.f10.params.toList args.toList ds p := hA0
  rw [Try.params10] at hA hval
  obtain ⟨v0, vs0, d0, ds0, p0, q0, hargs, rfl, rfl, h0, r0⟩ := trodAll_cons hA
  obtain ⟨rfl, rfl, rfl⟩ := trodAll_nil r0
  obtain rfl : args = #[v0] := by cases args; simp_all
  obtain ⟨rfl, rfl⟩ := trodVars_none hV
  obtain ⟨a0, len0, cap0, rfl⟩ := okWide_slice Try.underlying22 (hval 0 22 v0 rfl rfl)
  have k0 := h0
  have lt0 : ∀ x ∈ p0, x.block < W.heap.size := by obtain ⟨m, hm⟩ := k0; exact DataW.trod_lt m _ _ _ hm
  obtain ⟨z0, w0⟩ : ∃ zs, Rd .u8 W (.slice a0 len0 cap0) zs := by
    obtain ⟨fuel, hf⟩ := h0
    rcases open_ints Try.underlying22 Try.underlying5 (by kernel_rfl) hf with ⟨hcs, _⟩ | ⟨x, l, c, zs, hcs, _, hl, hm, hz, _, hcell, hwz⟩
    · simp [Value.cells] at hcs
      obtain ⟨rfl, rfl, rfl⟩ := hcs
      exact ⟨[], Rd.nil _ _⟩
    · simp [Value.cells] at hcs
      obtain ⟨rfl, rfl, rfl⟩ := hcs
      exact ⟨zs.take len0, Rd.of_row hl hm (by simpa using hz) hcell hwz⟩
  clear hA0 hval0
  refine (walk z0 W w0).mono fun e W' ⟨he, bel⟩ => ?_
  subst he
  exact ⟨_, rfl, _, _, _, [], _, [], hW', trodAll_mk1 (shut_bool Try.underlying4 _), (trodAll_cons_mk (Below.trod laidOut (by kernel_rfl) (of_decide_eq_true (by kernel_rfl)) k0 bel lt0) trodAll_mk0), rfl, bel.frame _, fun h => by cases h⟩

theorem over : Rows.fnVarintsRow.holds Try.pinned (OpenSpec.ofChange Rows.fnVarintsSpec) :=
  OpenClaim.holds_of_wide 10 Try.f10 rfl rfl rfl rfl rfl rfl rfl ⟨rfl, rfl, rfl, rfl, rfl⟩ rfl rfl rfl rfl rfl (by kernel_rfl) Try.func10 (by kernel_rfl)
    (of_decide_eq_true (by kernel_rfl)) (by unfold Func.isWrapper; first | (rw [if_pos (by decide +kernel)]; kernel_rfl) | (rw [if_neg (by decide +kernel)]; exact ⟨rfl, rfl⟩))
    (fun os started H enc _ => lifted os started H enc)

theorem proved : Rows.FnVarintsSaid := over
#print axioms proved
end Go.Proofs.Ytjnpdepgmgdhdaa.fnVarints


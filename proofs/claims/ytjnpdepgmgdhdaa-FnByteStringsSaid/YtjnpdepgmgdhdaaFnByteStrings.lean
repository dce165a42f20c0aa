/- FnByteStrings: for every input the law's Go function returns true and leaves its arguments as they were. Conditions: none. -/
import Derived.Test.YtjnpdepgmgdhdaaRows
import Derived.WalkKit
import Derived.ProofKit
import Derived.OpenShut
import Derived.ShutString
import Derived.ChangeOld
import Derived.Below
import Derived.Test.YtjnpdepgmgdhdaaCEqual
import Derived.Test.YtjnpdepgmgdhdaaCBig
import Derived.Test.YtjnpdepgmgdhdaaCDrawF
import Derived.Test.YtjnpdepgmgdhdaaCVarLaw
import Derived.IntWalk
namespace Go.Proofs.Ytjnpdepgmgdhdaa.fnByteStrings
open Go.ChangeShapes Go.WideShapes Go.ChangeAt Go.RowKit
open Go.ChangeMaps (open_string shut_string)
set_option linter.unusedVariables false

theorem own : ownKnob Try.prog.godebug = none := by kernel_rfl
theorem laidOut : laidOutB Try.prog = true := by kernel_rfl


set_option maxRecDepth 100000 in
set_option maxHeartbeats 800000 in
theorem walk {v0 : Value} (z0 : List Int) (w : World) (w0 : Rd .u8 w v0 z0) :
    Calls Try.prog 9 #[v0] w fun e w' => e = .returned (.bool true) ∧ Below w.heap.size w w' := by
  have q0 := w0.b
  have len0 := w0.len_le
  by_cases big0 : 1048576 < z0.length
  · have HB := Lib.hid (laws_big v0 z0 w w0)
    rw [decide_eq_true big0] at HB
    obtain ⟨ad0, c0, rfl⟩ := w0.shape
    clear w0 q0
    go_enter Try.func9, Try.ntmps9
    go_wp2_with fail
    refine HB.out.mono ?_
    rintro e w1 ⟨rfl, rfl⟩
    go_wp2
    go_ret
    exact ⟨rfl, Below.refl _ _⟩
  have HB := Lib.hid (laws_big v0 z0 w w0)
  rw [decide_eq_false big0] at HB
  obtain ⟨ad0, c0, rfl⟩ := w0.shape
  have le0 : z0.length ≤ 1048576 := by omega
  clear big0
  go_enter Try.func9, Try.ntmps9
  go_wp2_with fail
  refine HB.out.mono ?_
  rintro e w1 ⟨rfl, rfl⟩
  clear HB
  go_wp2_with fail
  refine (DrawAppendBytes _ z0 _ w0 (by omega)).mono ?_
  rintro e w2 ⟨⟨u, ys, v, zs, rfl, o2, hy, o2', hz⟩, b2⟩
  obtain ⟨ad2, c2, rfl⟩ := o2.rd.shape
  obtain ⟨ad3, c3, rfl⟩ := o2'.rd.shape
  have r2 := o2.rd
  have d2 := o2'.rd
  clear o2 o2'
  have hal := appB_len ys zs
  obtain ⟨e1, e2, e3, e4⟩ := rb_app (b := ys) (d := zs) (by omega)
  have cr1 := fun W v (h : Rd .u8 W v (appB ys zs)) => impl_ReadBytes v _ (ys.length : Int) (zs.length : Int) W h (by omega) (by omega) (by omega)
  have cr2 := fun W v (h : Rd .u8 W v (appB ys zs)) => impl_ReadBytes v _ (ys.length : Int) ((zs.length : Int) - 1) W h (by omega) (by omega) (by omega)
  rw [e1, e2, e3] at cr1
  rw [e4] at cr2
  have hcr : Hid (∀ W v u, Rd .u8 W v zs → Rd .u8 W u zs → Calls Try.prog 33 #[v, u] W fun e w' => e = .returned (.bool true) ∧ Below W.heap.size W w') :=
    Lib.hid fun W v u h k => (laws_sameBytes v u zs zs W h k).mono fun e w' q => ⟨by rw [q.1, decide_eq_true (rfl : zs = zs)], q.2⟩
  have CA := Lib.hid (fun W (h1 : Rd .u8 W _ ys) h2 => impl_AppendBytes (.slice ad2 ys.length c2) (.slice ad3 zs.length c3) ys zs W h1 h2 (by omega) (by omega))
  generalize rbL (appB ys zs) ys.length ((zs.length : Int) - 1) = L at cr2
  generalize rbN (appB ys zs) ys.length ((zs.length : Int) - 1) = q at cr2
  generalize appB ys zs = X at cr1 cr2 hal CA
  have CR1 := Lib.hid cr1
  have CR2 := Lib.hid cr2
  clear cr1 cr2 e1 e2 e3 e4
  go_wp2_with fail
  refine (CA.out _ r2 d2).mono ?_
  rintro e w3 ⟨v3, rfl, o3, b3⟩
  have B3 := below_next b2 b3
  have d3 := d2.keep b3
  have x3 := o3.rd
  obtain ⟨ad4, c4, rfl⟩ := x3.shape
  clear o3 r2 d2 b2 b3 CA
  go_wp2_with fail
  refine (CR1.out _ _ x3).mono ?_
  rintro e w4 ⟨v4, rfl, o4, b4⟩
  have B4 := below_next B3 b4
  have d4 := d3.keep b4
  have x4 := x3.keep b4
  have y4 := o4.rd
  clear o4 d3 x3 B3 b4 CR1
  go_wp2_with fail
  refine (CR2.out _ _ x4).mono ?_
  rintro e w5 ⟨v5, rfl, o5, b5⟩
  have B5 := below_next B4 b5
  have d5 := d4.keep b5
  have y5 := y4.keep b5
  clear o5 d4 x4 y4 B4 b5 CR2
  go_wp2_with fail
  refine (hcr.out _ _ _ y5 d5).mono ?_
  rintro e w6 ⟨rfl, b6⟩
  have B6 := below_next B5 b6
  clear y5 d5 B5 b6 hcr
  have ha0 := atN_lt w0.wf 0
  have CA0 : Hid (∀ W, Below w.heap.size w W → Calls Try.prog 34 #[.slice ad0 z0.length c0, .int .i64 0] W fun e w' => e = .returned (.int .i64 ((atN z0 0 : Nat) : Int)) ∧ W = w') := Lib.hid (fun W h => laws_at _ z0 0 W (w0.keep h) (by omega) le0)
  generalize atN z0 0 = a0 at ha0 CA0
  obtain ⟨n, hn⟩ : ∃ n, n = a0 % 6 := ⟨_, rfl⟩
  have hn5 : n ≤ 5 := by omega
  have e1 : (a0 : Int) % 6 = (n : Int) := by omega
  clear hn
  go_wp2_with fail
  go_loopw [12, 13] (fun r i wr => ∃ (k : Nat) (ls : List Int), k ≤ n ∧ i = .int .i64 k ∧ Hid (ls.length = k) ∧ Hid (∀ v ∈ ls, 0 ≤ v ∧ v ≤ 1000000000000) ∧ Own .i64 3 wr w.heap.size wr.heap.size r ls ∧ Below w.heap.size w wr) (fun _ i _ => n - (intOf i).toNat)
  case atStart => exact ⟨0, [], Nat.zero_le _, rfl, Lib.hid rfl, Lib.hid (by simp), (own_lit0 w6 B6.size).top, B6.alloc B6.size _⟩
  case round =>
    obtain ⟨k, ls, hk, rfl, HL, HE, hr, hbw⟩ := hrel
    have hl5 : ls.length ≤ 5 := by have := HL.out; omega
    go_wp2_with fail
    refine (CA0.out _ hbw).mono ?_
    rintro e w7 ⟨rfl, rfl⟩
    by_cases hlt : k < n
    · have hx := atN_lt w0.wf (k + 1)
      have hy := atN_lt w0.wf (k + 2)
      have hz := atN_lt w0.wf (k + 3)
      have c1 : ∀ W, Below w.heap.size w W → Calls Try.prog 34 #[.slice ad0 z0.length c0, .int .i64 ((k : Int) + 1)] W fun e w' => e = .returned (.int .i64 ((atN z0 (k + 1) : Nat) : Int)) ∧ W = w' := fun W h => laws_at _ z0 (k + 1) W (w0.keep h) (by omega) le0
      have c2 : ∀ W, Below w.heap.size w W → Calls Try.prog 34 #[.slice ad0 z0.length c0, .int .i64 ((k : Int) + 2)] W fun e w' => e = .returned (.int .i64 ((atN z0 (k + 2) : Nat) : Int)) ∧ W = w' := fun W h => laws_at _ z0 (k + 2) W (w0.keep h) (by omega) le0
      have c3 : ∀ W, Below w.heap.size w W → Calls Try.prog 34 #[.slice ad0 z0.length c0, .int .i64 ((k : Int) + 3)] W fun e w' => e = .returned (.int .i64 ((atN z0 (k + 3) : Nat) : Int)) ∧ W = w' := fun W h => laws_at _ z0 (k + 3) W (w0.keep h) (by omega) le0
      generalize atN z0 (k + 1) = x at hx c1
      generalize atN z0 (k + 2) = y at hy c2
      generalize atN z0 (k + 3) = z at hz c3
      have C1 := Lib.hid c1
      have C2 := Lib.hid c2
      have C3 := Lib.hid c3
      clear c1 c2 c3
      have p1 : x * y ≤ 255 * 255 := Nat.mul_le_mul (by omega) (by omega)
      have p2 : x * y * z ≤ 255 * 255 * 255 := Nat.mul_le_mul p1 (by omega)
      have g1 : (x : Int) * (y : Int) = ((x * y : Nat) : Int) := by simp
      have g2 : ((x * y : Nat) : Int) * (z : Int) = ((x * y * z : Nat) : Int) := by simp
      have i1 : 0 ≤ (x : Int) * (y : Int) ∧ (x : Int) * (y : Int) ≤ 65025 := by rw [g1]; omega
      have i2 : 0 ≤ (x : Int) * (y : Int) * (z : Int) ∧ (x : Int) * (y : Int) * (z : Int) ≤ 16581375 := by rw [g1, g2]; omega
      obtain ⟨i3, i4⟩ := i1
      obtain ⟨i5, i6⟩ := i2
      clear p1 p2 g1 g2
      go_wp2_with fail
      refine (C1.out _ hbw).mono ?_
      rintro e w8 ⟨rfl, rfl⟩
      go_wp2_with fail
      refine (C2.out _ hbw).mono ?_
      rintro e w8 ⟨rfl, rfl⟩
      go_wp2_with fail
      refine (C3.out _ hbw).mono ?_
      rintro e w8 ⟨rfl, rfl⟩
      have hsz := hbw.size
      go_wp2_with (at_builtin; refine wpList_app _ rfl (.tmp 77) (.tmp 92) 34 rfl w.heap.size 3 .i64 8 Try.underlying34 info64 (by omega) _ _ ls [(x : Int) * (y : Int) * (z : Int)] rfl rfl (hr.alloc _) (rd_lit1 _ _ (WalkArith.wf_i64 (by omega))) (by simp; omega) (by simp; omega) ?_)
      intro v' w' o' b'
      have hbw' := (hbw.alloc hsz _).trans b'
      have HE' : Hid (∀ v ∈ ls ++ [(x : Int) * (y : Int) * (z : Int)], 0 ≤ v ∧ v ≤ 1000000000000) := Lib.hid (fun v hv => by
        rcases List.mem_append.1 hv with hv | hv
        · exact HE.out v hv
        · rw [List.mem_singleton.1 hv]; omega)
      go_wp2
      go_roundw
      case rel => exact ⟨k + 1, _, by omega, by go_num, Lib.hid (by rw [List.length_append, HL.out]; rfl), HE', o', hbw'⟩
      case measure => simp [intOf]; omega
    · have hn2 : ¬ ((k : Int) < (n : Int)) := by omega
      obtain ⟨ad6, c6, rfl⟩ := hr.rd.shape
      obtain ⟨d1, d2⟩ := di_enc HE.out (by omega)
      have hel := encL_len ls
      have r7 := hr.rd
      have cd1 := fun W v (h : Rd .u8 W v (encL ls)) => impl_DecodeInts v _ 0 (ls.length : Int) W h (by omega) (by omega) (by omega)
      have cd2 := fun W v (h : Rd .u8 W v (encL ls)) => impl_DecodeInts v _ 0 ((ls.length : Int) + 1) W h (by omega) (by omega) (by omega)
      rw [d1] at cd1
      rw [d2] at cd2
      have ce := fun W (h : Rd .i64 W _ ls) => impl_EncodeInts (.slice ad6 ls.length c6) ls W h (by omega)
      have cs : ∀ W v u, Rd .i64 W v ls → Rd .i64 W u ls → Calls Try.prog 35 #[v, u] W fun e w' => e = .returned (.bool true) ∧ Below W.heap.size W w' :=
        fun W v u h k => (laws_sameInts v u ls ls W h k).mono fun e w' q => ⟨by rw [q.1, decide_eq_true (rfl : ls = ls)], q.2⟩
      generalize encL ls = E at cd1 cd2 ce hel
      have CD1 := Lib.hid cd1
      have CD2 := Lib.hid cd2
      have CE := Lib.hid ce
      have CS := Lib.hid cs
      clear cd1 cd2 ce cs d1 d2 HL HE hr
      go_wp2_with fail
      refine (CE.out _ r7).mono ?_
      rintro e w8 ⟨v8, rfl, o8, b8⟩
      have B8 := below_next hbw b8
      have r8 := r7.keep b8
      have x8 := o8.rd
      obtain ⟨ad8, c8, rfl⟩ := x8.shape
      clear o8 r7 hbw b8 CE
      go_wp2_with fail
      refine (CD1.out _ _ x8).mono ?_
      rintro e w9 ⟨v9, rfl, o9, b9⟩
      have B9 := below_next B8 b9
      have r9 := r8.keep b9
      have x9 := x8.keep b9
      have y9 := o9.rd
      clear o9 r8 x8 B8 b9 CD1
      go_wp2_with fail
      refine (CD2.out _ _ x9).mono ?_
      rintro e w10 ⟨v10, rfl, o10, b10⟩
      have B10 := below_next B9 b10
      have r10 := r9.keep b10
      have y10 := y9.keep b10
      clear o10 r9 x9 y9 B9 b10 CD2
      go_wp2_with fail
      refine (CS.out _ _ _ y10 r10).mono ?_
      rintro e w11 ⟨rfl, b11⟩
      have B11 := below_next B10 b11
      go_wp2_with fail
      go_ret
      exact ⟨rfl, B11⟩
set_option maxRecDepth 100000 in
theorem lifted (os : Os) (started : os.Started) (H : Type) (enc : TypeId × Value → H) :
    ReturnsInHanded {} Try.checked os 9 .any (Rows.fnByteStringsSpec.pre6 enc Try.prog Try.f9 Rows.fnByteStringsRow.domain false) (Rows.fnByteStringsSpec.post enc Try.prog Try.f9 false true false false) := by
  refine returnsInHanded_of_change (C := Try.checked) own started (by kernel_rfl) Try.func9
    (ChangeSpec.witness6 (enc := enc) (C := Try.checked) false ⟨#[], #[.slice none 0 0], []⟩ 8 (by kernel_rfl) (by kernel_rfl) (by kernel_rfl) (by kernel_rfl)) ?_
  intro W base args ds gs before hval0 hW hcnd _
  have hval : ∀ (j : Nat) t v, Try.f9.params[j]? = some t → args[j]? = some v → Value.okWide Try.prog W .any base t v := hval0
  have hW' := hW
  obtain ⟨p, q, hA0, hV, rfl, hfz, hnd⟩ := hW
  have hA : DataW.TrodAll enc Try.prog W 0 (fun _ => true) true Try.f9.params.toList args.toList ds p := hA0
  rw [Try.params9] at hA hval
  obtain ⟨v0, vs0, d0, ds0, p0, q0, hargs, rfl, rfl, h0, r0⟩ := trodAll_cons hA
  obtain ⟨rfl, rfl, rfl⟩ := trodAll_nil r0
  obtain rfl : args = #[v0] := by cases args; simp_all
  obtain ⟨rfl, rfl⟩ := trodVars_none hV
  obtain ⟨a0, len0, cap0, rfl⟩ := okWide_slice Try.underlying22 (hval 0 22 v0 rfl rfl)
  have k0 := h0
  have lt0 : ∀ x ∈ p0, x.block < W.heap.size := by obtain ⟨m, hm⟩ := k0; exact DataW.trod_lt m _ _ _ hm
  obtain ⟨z0, w0⟩ : ∃ zs, Rd .u8 W (.slice a0 len0 cap0) zs := by
    obtain ⟨fuel, hf⟩ := h0
    rcases open_ints Try.underlying22 Try.underlying5 (by kernel_rfl) hf with ⟨hcs, _⟩ | ⟨x, l, c, zs, hcs, _, hl, hm, hz, _, hcell, hwz⟩
    · simp [Value.cells] at hcs
      obtain ⟨rfl, rfl, rfl⟩ := hcs
      exact ⟨[], Rd.nil _ _⟩
    · simp [Value.cells] at hcs
      obtain ⟨rfl, rfl, rfl⟩ := hcs
      exact ⟨zs.take len0, Rd.of_row hl hm (by simpa using hz) hcell hwz⟩
  clear hA0 hval0
  refine (walk z0 W w0).mono fun e W' ⟨he, bel⟩ => ?_
  subst he
  exact ⟨_, rfl, _, _, _, [], _, [], hW', trodAll_mk1 (shut_bool Try.underlying4 _), (trodAll_cons_mk (Below.trod laidOut (by kernel_rfl) (of_decide_eq_true (by kernel_rfl)) k0 bel lt0) trodAll_mk0), rfl, bel.frame _, fun h => by cases h⟩

theorem over : Rows.fnByteStringsRow.holds Try.pinned (OpenSpec.ofChange Rows.fnByteStringsSpec) :=
  OpenClaim.holds_of_wide 9 Try.f9 rfl rfl rfl rfl rfl rfl rfl ⟨rfl, rfl, rfl, rfl, rfl⟩ rfl rfl rfl rfl rfl (by kernel_rfl) Try.func9 (by kernel_rfl)
    (of_decide_eq_true (by kernel_rfl)) (by unfold Func.isWrapper; first | (rw [if_pos (by decide +kernel)]; kernel_rfl) | (rw [if_neg (by decide +kernel)]; exact ⟨rfl, rfl⟩))
    (fun os started H enc _ => lifted os started H enc)

theorem proved : Rows.FnByteStringsSaid := over
#print axioms proved
end Go.Proofs.Ytjnpdepgmgdhdaa.fnByteStrings


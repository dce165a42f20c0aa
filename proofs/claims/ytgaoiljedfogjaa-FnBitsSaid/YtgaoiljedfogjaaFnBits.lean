/- FnBits: for every input the law's Go function returns true and leaves its arguments as they were. Conditions: none. -/
import Derived.Test.YtgaoiljedfogjaaRows
import Derived.WalkKit
import Derived.ProofKit
import Derived.OpenShut
import Derived.ShutString
import Derived.ChangeOld
import Derived.Below
import Derived.Test.YtgaoiljedfogjaaCEqual
import Derived.Test.YtgaoiljedfogjaaCBig
import Derived.Test.YtgaoiljedfogjaaCDrawE
import Derived.Test.YtgaoiljedfogjaaCBitLaw
import Derived.IntWalk
namespace Go.Proofs.Ytgaoiljedfogjaa.fnBits
open Go.ChangeShapes Go.WideShapes Go.ChangeAt Go.RowKit
open Go.ChangeMaps (open_string shut_string)
set_option linter.unusedVariables false

theorem own : ownKnob Try.prog.godebug = none := by kernel_rfl
theorem laidOut : laidOutB Try.prog = true := by kernel_rfl


set_option maxRecDepth 100000 in
set_option maxHeartbeats 400000 in
theorem walk {v0 : Value} (z0 : List Int) (w : World) (w0 : Rd .u8 w v0 z0) :
    Calls Try.prog 14 #[v0] w fun e w' => e = .returned (.bool true) ∧ Below w.heap.size w w' := by
  have q0 := w0.b
  have len0 := w0.len_le
  by_cases big0 : 1048576 < z0.length
  · have HB := Lib.hid (laws_big v0 z0 w w0)
    rw [decide_eq_true big0] at HB
    obtain ⟨ad0, c0, rfl⟩ := w0.shape
    clear w0 q0
    go_enter Try.func14, Try.ntmps14
    go_wp2_with fail
    refine HB.out.mono ?_
    rintro e w1 ⟨rfl, rfl⟩
    go_wp2
    go_ret
    exact ⟨rfl, Below.refl _ _⟩
  have HB := Lib.hid (laws_big v0 z0 w w0)
  rw [decide_eq_false big0] at HB
  obtain ⟨ad0, c0, rfl⟩ := w0.shape
  have le0 : z0.length ≤ 1048576 := by omega
  clear big0
  go_enter Try.func14, Try.ntmps14
  go_wp2_with fail
  refine HB.out.mono ?_
  rintro e w1 ⟨rfl, rfl⟩
  clear HB
  go_wp2_with fail
  refine (DrawBytesToBits _ z0 _ w0 (by omega)).mono ?_
  rintro e w2 ⟨⟨u, ys, rfl, o2, hy⟩, b2⟩
  obtain ⟨ad2, c2, rfl⟩ := o2.rd.shape
  have r2 := o2.rd
  clear o2
  go_wp2_with fail
  refine (impl_BytesToBits _ _ _ r2 (by omega)).mono ?_
  rintro e w3 ⟨v3, rfl, o3, b3⟩
  have B3 := below_next b2 b3
  have r3 := r2.keep b3
  have CB := fun W v (h : Rd .i64 W v (btb ys)) => impl_BitsToBytes v (btb ys) W h (by rw [btb_len]; omega)
  rw [b2b_btb r2.wf, okB_btb] at CB
  have HCB := Lib.hid CB
  have hcr : Hid (∀ W v u, Rd .u8 W v ys → Rd .u8 W u ys → Calls Try.prog 49 #[v, u] W fun e w' => e = .returned (.bool true) ∧ Below W.heap.size W w') :=
    Lib.hid fun W v u h k => (laws_sameBytes v u ys ys W h k).mono fun e w' q => ⟨by rw [q.1, decide_eq_true (rfl : ys = ys)], q.2⟩
  clear CB r2 b2 b3
  go_wp2_with fail
  refine (HCB.out _ _ o3.rd).mono ?_
  rintro e w4 ⟨v4, rfl, o4, b4⟩
  have B4 := below_next B3 b4
  have r4 := r3.keep b4
  have x4 := o4.rd
  clear HCB r3 o3 o4 b4
  go_wp2_with fail
  refine (DrawBitsToBytes _ z0 _ (w0.keep B4) (by omega)).mono ?_
  rintro e w5 ⟨⟨v5, l, rfl, o5, hl⟩, b5⟩
  have B5 := below_next B4 b5
  have r5 := r4.keep b5
  have x5 := x4.keep b5
  have l5 := o5.rd
  obtain ⟨ad5, c5, rfl⟩ := l5.shape
  have HBB := Lib.hid (fun W v h => impl_BitsToBytes v l W h (by omega))
  clear o5 r4 x4 b5 B4 B3
  go_wp2_with fail
  refine (HBB.out _ _ l5).mono ?_
  rintro e w6 ⟨v6, rfl, o6, b6⟩
  have B6 := below_next B5 b6
  have r6 := r5.keep b6
  have x6 := x5.keep b6
  have l6 := l5.keep b6
  have y6 := o6.rd
  clear HBB o6 r5 x5 l5 b6 B5
  go_wp2_with fail
  refine (laws_at _ z0 0 _ (w0.keep B6) (by omega) le0).mono ?_
  rintro e w8 ⟨rfl, rfl⟩
  have ha0 := atN_lt w0.wf 0
  generalize atN z0 0 = a0 at ha0 ⊢
  go_wp2_with fail
  refine (laws_at _ z0 1 _ (w0.keep B6) (by omega) le0).mono ?_
  rintro e w8 ⟨rfl, rfl⟩
  have ha1 := atN_lt w0.wf 1
  generalize atN z0 1 = a1 at ha1 ⊢
  go_wp2_with fail
  refine (laws_at _ z0 2 _ (w0.keep B6) (by omega) le0).mono ?_
  rintro e w8 ⟨rfl, rfl⟩
  have ha2 := atN_lt w0.wf 2
  generalize atN z0 2 = a2 at ha2 ⊢
  go_wp2_with fail
  refine (laws_at _ z0 3 _ (w0.keep B6) (by omega) le0).mono ?_
  rintro e w8 ⟨rfl, rfl⟩
  have ha3 := atN_lt w0.wf 3
  generalize atN z0 3 = a3 at ha3 ⊢
  go_wp2_with fail
  refine (impl_BytesToBits _ [(a2 : Int), (a3 : Int)] _ (rd_lit2 w6 _ _ (by go_wf) (by go_wf)) (by simp)).mono ?_
  rintro e w7 ⟨v7, rfl, o7, b7⟩
  have b7' : Below w6.heap.size w6 w7 := ((Below.refl _ _).alloc (Nat.le_refl _) _).trans (b7.mono (by simp))
  have B7 := below_next B6 b7'
  have r7 := r6.keep b7'
  have x7 := x6.keep b7'
  have l7 := l6.keep b7'
  have y7 := y6.keep b7'
  have U7 := o7.rd
  clear o7 b7 b7' r6 x6 l6 y6 B6
  go_wp2_with fail
  refine (laws_at _ z0 4 _ (w0.keep B7) (by omega) le0).mono ?_
  rintro e w8 ⟨rfl, rfl⟩
  have ha4 := atN_lt w0.wf 4
  generalize atN z0 4 = a4 at ha4 ⊢
  go_wp2_with fail
  refine (laws_at _ z0 5 _ (w0.keep B7) (by omega) le0).mono ?_
  rintro e w8 ⟨rfl, rfl⟩
  have ha5 := atN_lt w0.wf 5
  generalize atN z0 5 = a5 at ha5 ⊢
  go_wp2_with fail
  refine (impl_BytesToBits _ [(a4 : Int), (a5 : Int)] _ (rd_lit2 w7 _ _ (by go_wf) (by go_wf)) (by simp)).mono ?_
  rintro e w9 ⟨v9, rfl, o9, b9⟩
  have b9' : Below w7.heap.size w7 w9 := ((Below.refl _ _).alloc (Nat.le_refl _) _).trans (b9.mono (by simp))
  have B9 := below_next B7 b9'
  have r9 := r7.keep b9'
  have x9 := x7.keep b9'
  have l9 := l7.keep b9'
  have y9 := y7.keep b9'
  have U9 := U7.keep b9'
  have V9 := o9.rd
  clear o9 b9 b9' r7 x7 l7 y7 U7 B7
  have hU : upTo 1 (btb [(a2 : Int), (a3 : Int)]) = true := btb_up _
  have hV : upTo 1 (btb [(a4 : Int), (a5 : Int)]) = true := btb_up _
  have hUl : (btb [(a2 : Int), (a3 : Int)]).length = 16 := by rw [btb_len]; rfl
  have hVl : (btb [(a4 : Int), (a5 : Int)]).length = 16 := by rw [btb_len]; rfl
  generalize btb [(a2 : Int), (a3 : Int)] = U at hU hUl U9
  generalize btb [(a4 : Int), (a5 : Int)] = V at hV hVl V9
  have c1 := fun W vu vv (h1 : Rd .i64 W vu U) (h2 : Rd .i64 W vv V) => impl_XorBits vu vv U V W h1 h2 (by omega) (by omega)
  have c2' := fun W vx vv (h1 : Rd .i64 W vx (xorB U V)) (h2 : Rd .i64 W vv V) => impl_XorBits vx vv (xorB U V) V W h1 h2 (by have := xorB_len U V; omega) (by omega)
  rw [xor_back hU (by omega)] at c2'
  have c3 := fun W vx (h1 : Rd .i64 W vx (xorB U V)) => impl_Weight vx _ W h1
  have c4 := fun W vu vv (h1 : Rd .i64 W vu U) (h2 : Rd .i64 W vv V) => impl_HammingDistance vu vv U V W h1 h2 (by omega) (by omega)
  rw [wt_xor hU hV (by omega)] at c3
  have c5 := fun W vu (h1 : Rd .i64 W vu U) => impl_Parity vu U W h1
  have c6 := fun W vu (h1 : Rd .i64 W vu U) => impl_Weight vu U W h1
  have hm := wt_bd U
  rw [hUl] at hm
  have hs : ∀ W v u, Rd .i64 W v U → Rd .i64 W u U → Calls Try.prog 51 #[v, u] W fun e w' => e = .returned (.bool true) ∧ Below W.heap.size W w' :=
    fun W v u h k => (laws_sameInts v u U U W h k).mono fun e w' q => ⟨by rw [q.1, decide_eq_true (rfl : U = U)], q.2⟩
  have C1 := Lib.hid c1
  have C2 := Lib.hid c2'
  generalize xorB U V = X at C1 C2 c3
  generalize ham U V = h at c3 c4
  generalize wt U = m at c5 c6 hm
  have C3 := Lib.hid c3
  have C4 := Lib.hid c4
  have C5 := Lib.hid c5
  have C6 := Lib.hid c6
  have HS := Lib.hid hs
  clear c1 c2' c3 c4 c5 c6 hs hU hV hUl hVl ha2 ha3 ha4 ha5
  obtain ⟨n, hn⟩ : ∃ n, n = a0 * 256 + a1 := ⟨_, rfl⟩
  have HN := Lib.hid (show (a0 : Int) * 256 + (a1 : Int) = (n : Int) by omega)
  have hn2 : n < 65536 := by omega
  have c7 := fun W v (h1 : Rd .i64 W v (itbI (n : Int) 16)) => impl_BitsToInt v _ W h1
  rw [b2i_itb hn2] at c7
  have C7 := Lib.hid c7
  have CI := Lib.hid (fun W h => spec_IsBitString (.slice ad5 l.length c5) l W h)
  clear c7 hn
  rw [HN.out]
  clear HN ha0 ha1
  obtain ⟨hm1, hm2⟩ := hm
  by_cases hup : upTo 1 l = true
  · rw [hup] at CI
    by_cases h8 : l.length % 8 = 0
    · have hok : okB l = true := by unfold okB; rw [hup, decide_eq_true h8]; rfl
      have cb := fun W v (h : Rd .u8 W v (b2b l)) => impl_BytesToBits v (b2b l) W h (by have := b2b_len l; omega)
      rw [btb_b2b hok] at cb
      have HCB := Lib.hid cb
      have hsl : Hid (∀ W v u, Rd .i64 W v l → Rd .i64 W u l → Calls Try.prog 51 #[v, u] W fun e w' => e = .returned (.bool true) ∧ Below W.heap.size W w') :=
        Lib.hid fun W v u h k => (laws_sameInts v u l l W h k).mono fun e w' q => ⟨by rw [q.1, decide_eq_true (rfl : l = l)], q.2⟩
      have h8' : ((l.length : Int) % 8 == 0) = true := by simp; omega
      rw [hok]
      clear hok cb h8 hup
      go_wp2_with fail
      refine (hcr.out _ _ _ x9 r9).mono ?_
      rintro e w10 ⟨rfl, b10⟩
      have B10 := below_next B9 b10
      replace l9 := l9.keep b10
      replace y9 := y9.keep b10
      replace U9 := U9.keep b10
      replace V9 := V9.keep b10
      go_wp2_with fail
      refine (CI.out _ l9).mono ?_
      rintro e w11 ⟨rfl, b11⟩
      have B11 := below_next B10 b11
      replace l9 := l9.keep b11
      replace y9 := y9.keep b11
      replace U9 := U9.keep b11
      replace V9 := V9.keep b11
      go_wp2_with fail
      refine (HCB.out _ _ y9).mono ?_
      rintro e w12 ⟨v12, rfl, o12, b12⟩
      have B12 := below_next B11 b12
      replace l9 := l9.keep b12
      replace U9 := U9.keep b12
      replace V9 := V9.keep b12
      go_wp2_with fail
      refine (hsl.out _ _ _ o12.rd l9).mono ?_
      rintro e w13 ⟨rfl, b13⟩
      have B13 := below_next B12 b13
      replace U9 := U9.keep b13
      replace V9 := V9.keep b13
      clear x9 r9 l9 y9 o12 b10 b11 b12 b13 B9 B10 B11 B12 HCB hsl hcr CI
      go_wp2_with fail
      refine (impl_IntToBits (n : Int) 16 _ (by omega) (by omega)).mono ?_
      rintro e w14 ⟨v14, rfl, o14, b14⟩
      have B14 := below_next B13 b14
      replace U9 := U9.keep b14
      replace V9 := V9.keep b14
      clear B13 b14
      go_wp2_with fail
      refine (C7.out _ _ o14.rd).mono ?_
      rintro e w15 ⟨rfl, b15⟩
      have B15 := below_next B14 b15
      replace U9 := U9.keep b15
      replace V9 := V9.keep b15
      clear B14 b15 o14 C7
      go_wp2_with fail
      refine (C1.out _ _ _ U9 V9).mono ?_
      rintro e w16 ⟨v16, rfl, o16, b16⟩
      have B16 := below_next B15 b16
      replace U9 := U9.keep b16
      replace V9 := V9.keep b16
      clear B15 b16
      go_wp2_with fail
      refine (C3.out _ _ o16.rd).mono ?_
      rintro e w17 ⟨rfl, b17⟩
      have B17 := below_next B16 b17
      replace U9 := U9.keep b17
      replace V9 := V9.keep b17
      clear B16 b17 o16 C3
      go_wp2_with fail
      refine (C4.out _ _ _ U9 V9).mono ?_
      rintro e w18 ⟨rfl, b18⟩
      have B18 := below_next B17 b18
      replace U9 := U9.keep b18
      replace V9 := V9.keep b18
      clear B17 b18 C4
      go_wp2_with fail
      refine (C5.out _ _ U9).mono ?_
      rintro e w19 ⟨rfl, b19⟩
      have B19 := below_next B18 b19
      replace U9 := U9.keep b19
      replace V9 := V9.keep b19
      clear B18 b19 C5
      go_wp2_with fail
      refine (C6.out _ _ U9).mono ?_
      rintro e w20 ⟨rfl, b20⟩
      have B20 := below_next B19 b20
      replace U9 := U9.keep b20
      replace V9 := V9.keep b20
      clear B19 b20 C6
      go_wp2_with fail
      refine (C1.out _ _ _ U9 V9).mono ?_
      rintro e w21 ⟨v21, rfl, o21, b21⟩
      have B21 := below_next B20 b21
      replace U9 := U9.keep b21
      replace V9 := V9.keep b21
      clear B20 b21 C1
      go_wp2_with fail
      refine (C2.out _ _ _ o21.rd V9).mono ?_
      rintro e w22 ⟨v22, rfl, o22, b22⟩
      have B22 := below_next B21 b22
      replace U9 := U9.keep b22
      clear B21 b22 C2 V9
      go_wp2_with fail
      refine (HS.out _ _ _ o22.rd U9).mono ?_
      rintro e w23 ⟨rfl, b23⟩
      have B23 := below_next B22 b23
      clear B22 b23 HS U9 o22 o21
      go_wp2_with fail
      go_ret
      exact ⟨rfl, B23⟩
    · have hok : okB l = false := by unfold okB; rw [hup, decide_eq_false h8]; rfl
      have h8' : ((l.length : Int) % 8 == 0) = false := by simp; omega
      rw [hok]
      clear hok h8 hup
      go_wp2_with fail
      refine (hcr.out _ _ _ x9 r9).mono ?_
      rintro e w10 ⟨rfl, b10⟩
      have B10 := below_next B9 b10
      replace l9 := l9.keep b10
      replace U9 := U9.keep b10
      replace V9 := V9.keep b10
      go_wp2_with fail
      refine (CI.out _ l9).mono ?_
      rintro e w13 ⟨rfl, b13⟩
      have B13 := below_next B10 b13
      replace U9 := U9.keep b13
      replace V9 := V9.keep b13
      clear x9 r9 l9 y9 b10 b13 B9 B10 hcr CI
      go_wp2_with fail
      refine (impl_IntToBits (n : Int) 16 _ (by omega) (by omega)).mono ?_
      rintro e w14 ⟨v14, rfl, o14, b14⟩
      have B14 := below_next B13 b14
      replace U9 := U9.keep b14
      replace V9 := V9.keep b14
      clear B13 b14
      go_wp2_with fail
      refine (C7.out _ _ o14.rd).mono ?_
      rintro e w15 ⟨rfl, b15⟩
      have B15 := below_next B14 b15
      replace U9 := U9.keep b15
      replace V9 := V9.keep b15
      clear B14 b15 o14 C7
      go_wp2_with fail
      refine (C1.out _ _ _ U9 V9).mono ?_
      rintro e w16 ⟨v16, rfl, o16, b16⟩
      have B16 := below_next B15 b16
      replace U9 := U9.keep b16
      replace V9 := V9.keep b16
      clear B15 b16
      go_wp2_with fail
      refine (C3.out _ _ o16.rd).mono ?_
      rintro e w17 ⟨rfl, b17⟩
      have B17 := below_next B16 b17
      replace U9 := U9.keep b17
      replace V9 := V9.keep b17
      clear B16 b17 o16 C3
      go_wp2_with fail
      refine (C4.out _ _ _ U9 V9).mono ?_
      rintro e w18 ⟨rfl, b18⟩
      have B18 := below_next B17 b18
      replace U9 := U9.keep b18
      replace V9 := V9.keep b18
      clear B17 b18 C4
      go_wp2_with fail
      refine (C5.out _ _ U9).mono ?_
      rintro e w19 ⟨rfl, b19⟩
      have B19 := below_next B18 b19
      replace U9 := U9.keep b19
      replace V9 := V9.keep b19
      clear B18 b19 C5
      go_wp2_with fail
      refine (C6.out _ _ U9).mono ?_
      rintro e w20 ⟨rfl, b20⟩
      have B20 := below_next B19 b20
      replace U9 := U9.keep b20
      replace V9 := V9.keep b20
      clear B19 b20 C6
      go_wp2_with fail
      refine (C1.out _ _ _ U9 V9).mono ?_
      rintro e w21 ⟨v21, rfl, o21, b21⟩
      have B21 := below_next B20 b21
      replace U9 := U9.keep b21
      replace V9 := V9.keep b21
      clear B20 b21 C1
      go_wp2_with fail
      refine (C2.out _ _ _ o21.rd V9).mono ?_
      rintro e w22 ⟨v22, rfl, o22, b22⟩
      have B22 := below_next B21 b22
      replace U9 := U9.keep b22
      clear B21 b22 C2 V9
      go_wp2_with fail
      refine (HS.out _ _ _ o22.rd U9).mono ?_
      rintro e w23 ⟨rfl, b23⟩
      have B23 := below_next B22 b23
      clear B22 b23 HS U9 o22 o21
      go_wp2_with fail
      go_ret
      exact ⟨rfl, B23⟩
  · have hup' : upTo 1 l = false := by simpa using hup
    rw [hup'] at CI
    have hok : okB l = false := by unfold okB; rw [hup']; rfl
    rw [hok]
    clear hok hup hup'
    go_wp2_with fail
    refine (hcr.out _ _ _ x9 r9).mono ?_
    rintro e w10 ⟨rfl, b10⟩
    have B10 := below_next B9 b10
    replace l9 := l9.keep b10
    replace U9 := U9.keep b10
    replace V9 := V9.keep b10
    go_wp2_with fail
    refine (CI.out _ l9).mono ?_
    rintro e w13 ⟨rfl, b13⟩
    have B13 := below_next B10 b13
    replace U9 := U9.keep b13
    replace V9 := V9.keep b13
    clear x9 r9 l9 y9 b10 b13 B9 B10 hcr CI
    go_wp2_with fail
    refine (impl_IntToBits (n : Int) 16 _ (by omega) (by omega)).mono ?_
    rintro e w14 ⟨v14, rfl, o14, b14⟩
    have B14 := below_next B13 b14
    replace U9 := U9.keep b14
    replace V9 := V9.keep b14
    clear B13 b14
    go_wp2_with fail
    refine (C7.out _ _ o14.rd).mono ?_
    rintro e w15 ⟨rfl, b15⟩
    have B15 := below_next B14 b15
    replace U9 := U9.keep b15
    replace V9 := V9.keep b15
    clear B14 b15 o14 C7
    go_wp2_with fail
    refine (C1.out _ _ _ U9 V9).mono ?_
    rintro e w16 ⟨v16, rfl, o16, b16⟩
    have B16 := below_next B15 b16
    replace U9 := U9.keep b16
    replace V9 := V9.keep b16
    clear B15 b16
    go_wp2_with fail
    refine (C3.out _ _ o16.rd).mono ?_
    rintro e w17 ⟨rfl, b17⟩
    have B17 := below_next B16 b17
    replace U9 := U9.keep b17
    replace V9 := V9.keep b17
    clear B16 b17 o16 C3
    go_wp2_with fail
    refine (C4.out _ _ _ U9 V9).mono ?_
    rintro e w18 ⟨rfl, b18⟩
    have B18 := below_next B17 b18
    replace U9 := U9.keep b18
    replace V9 := V9.keep b18
    clear B17 b18 C4
    go_wp2_with fail
    refine (C5.out _ _ U9).mono ?_
    rintro e w19 ⟨rfl, b19⟩
    have B19 := below_next B18 b19
    replace U9 := U9.keep b19
    replace V9 := V9.keep b19
    clear B18 b19 C5
    go_wp2_with fail
    refine (C6.out _ _ U9).mono ?_
    rintro e w20 ⟨rfl, b20⟩
    have B20 := below_next B19 b20
    replace U9 := U9.keep b20
    replace V9 := V9.keep b20
    clear B19 b20 C6
    go_wp2_with fail
    refine (C1.out _ _ _ U9 V9).mono ?_
    rintro e w21 ⟨v21, rfl, o21, b21⟩
    have B21 := below_next B20 b21
    replace U9 := U9.keep b21
    replace V9 := V9.keep b21
    clear B20 b21 C1
    go_wp2_with fail
    refine (C2.out _ _ _ o21.rd V9).mono ?_
    rintro e w22 ⟨v22, rfl, o22, b22⟩
    have B22 := below_next B21 b22
    replace U9 := U9.keep b22
    clear B21 b22 C2 V9
    go_wp2_with fail
    refine (HS.out _ _ _ o22.rd U9).mono ?_
    rintro e w23 ⟨rfl, b23⟩
    have B23 := below_next B22 b23
    clear B22 b23 HS U9 o22 o21
    go_wp2_with fail
    go_ret
    exact ⟨rfl, B23⟩
set_option maxRecDepth 100000 in
theorem lifted (os : Os) (started : os.Started) (H : Type) (enc : TypeId × Value → H) :
    ReturnsInHanded {} Try.checked os 14 .any (Rows.fnBitsSpec.pre6 enc Try.prog Try.f14 Rows.fnBitsRow.domain false) (Rows.fnBitsSpec.post enc Try.prog Try.f14 false true false false) := by
  refine returnsInHanded_of_change (C := Try.checked) own started (by kernel_rfl) Try.func14
    (ChangeSpec.witness6 (enc := enc) (C := Try.checked) false ⟨#[], #[.slice none 0 0], []⟩ 8 (by kernel_rfl) (by kernel_rfl) (by kernel_rfl) (by kernel_rfl)) ?_
  intro W base args ds gs before hval0 hW hcnd _
  have hval : ∀ (j : Nat) t v, Try.f14.params[j]? = some t → args[j]? = some v → Value.okWide Try.prog W .any base t v := hval0
  have hW' := hW
  obtain ⟨p, q, hA0, hV, rfl, hfz, hnd⟩ := hW
  have hA : DataW.TrodAll enc Try.prog W 0 (fun _ => true) true Try.f14.params.toList args.toList ds p := hA0
  rw [Try.params14] at hA hval
  obtain ⟨v0, vs0, d0, ds0, p0, q0, hargs, rfl, rfl, h0, r0⟩ := trodAll_cons hA
  obtain ⟨rfl, rfl, rfl⟩ := trodAll_nil r0
  obtain rfl : args = #[v0] := by cases args; simp_all
  obtain ⟨rfl, rfl⟩ := trodVars_none hV
  obtain ⟨a0, len0, cap0, rfl⟩ := okWide_slice Try.underlying31 (hval 0 31 v0 rfl rfl)
  have k0 := h0
  have lt0 : ∀ x ∈ p0, x.block < W.heap.size := by obtain ⟨m, hm⟩ := k0; exact DataW.trod_lt m _ _ _ hm
  obtain ⟨z0, w0⟩ : ∃ zs, Rd .u8 W (.slice a0 len0 cap0) zs := by
    obtain ⟨fuel, hf⟩ := h0
    rcases open_ints Try.underlying31 Try.underlying5 (by kernel_rfl) hf with ⟨hcs, _⟩ | ⟨x, l, c, zs, hcs, _, hl, hm, hz, _, hcell, hwz⟩
    · simp [Value.cells] at hcs
      obtain ⟨rfl, rfl, rfl⟩ := hcs
      exact ⟨[], Rd.nil _ _⟩
    · simp [Value.cells] at hcs
      obtain ⟨rfl, rfl, rfl⟩ := hcs
      exact ⟨zs.take len0, Rd.of_row hl hm (by simpa using hz) hcell hwz⟩
  clear hA0 hval0
  refine (walk z0 W w0).mono fun e W' ⟨he, bel⟩ => ?_
  subst he
  exact ⟨_, rfl, _, _, _, [], _, [], hW', trodAll_mk1 (shut_bool Try.underlying4 _), (trodAll_cons_mk (Below.trod laidOut (by kernel_rfl) (of_decide_eq_true (by kernel_rfl)) k0 bel lt0) trodAll_mk0), rfl, bel.frame _, fun h => by cases h⟩

theorem over : Rows.fnBitsRow.holds Try.pinned (OpenSpec.ofChange Rows.fnBitsSpec) :=
  OpenClaim.holds_of_wide 14 Try.f14 rfl rfl rfl rfl rfl rfl rfl ⟨rfl, rfl, rfl, rfl, rfl⟩ rfl rfl rfl rfl rfl (by kernel_rfl) Try.func14 (by kernel_rfl)
    (of_decide_eq_true (by kernel_rfl)) (by unfold Func.isWrapper; first | (rw [if_pos (by decide +kernel)]; kernel_rfl) | (rw [if_neg (by decide +kernel)]; exact ⟨rfl, rfl⟩))
    (fun os started H enc _ => lifted os started H enc)

theorem proved : Rows.FnBitsSaid := over
#print axioms proved
end Go.Proofs.Ytgaoiljedfogjaa.fnBits


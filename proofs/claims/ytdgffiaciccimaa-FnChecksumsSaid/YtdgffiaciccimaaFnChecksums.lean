/- FnChecksums: for every input the law's Go function returns true and leaves its arguments as they were. Conditions: none. -/
import Derived.Test.YtdgffiaciccimaaRows
import Derived.WalkKit
import Derived.ProofKit
import Derived.OpenShut
import Derived.ShutString
import Derived.ChangeOld
import Derived.Below
import Derived.Test.YtdgffiaciccimaaCEqual
import Derived.Test.YtdgffiaciccimaaCBig
import Derived.Test.YtdgffiaciccimaaCDrawC
import Derived.Test.YtdgffiaciccimaaCCrcLaw
import Derived.IntWalk
import Derived.Lib.SlBytesConst
namespace Go.Proofs.Ytdgffiaciccimaa.fnChecksums
open Go.ChangeShapes Go.WideShapes Go.ChangeAt Go.RowKit
open Go.ChangeMaps (open_string shut_string)
set_option linter.unusedVariables false

theorem own : ownKnob Try.prog.godebug = none := by kernel_rfl
theorem laidOut : laidOutB Try.prog = true := by kernel_rfl


theorem flipV {x b : Nat} (hx : x < 256) (hb : b < 8) : bits .xor .u8 (x : Int) ((2 : Int) ^ b % 256) = ((x ^^^ 2 ^ b : Nat) : Int) := by
  have h1 : 2 ^ b < 2 ^ 8 := Nat.pow_lt_pow_right (by omega) hb
  have h2 : ((2 : Int) ^ b % 256) = ((2 ^ b : Nat) : Int) := by
    have : ((2 : Int) ^ b) = ((2 ^ b : Nat) : Int) := by simp
    rw [this]
    generalize 2 ^ b = p at h1 ⊢
    omega
  rw [h2]
  have h3 : x ^^^ 2 ^ b < 2 ^ 8 := Nat.xor_lt_two_pow hx h1
  show IntKind.u8.wrap ((BitVec.ofInt 8 (x : Int) ^^^ BitVec.ofInt 8 ((2 ^ b : Nat) : Int)).toNat : Int) = _
  rw [BitVec.toNat_xor, BitVec.ofInt_natCast, BitVec.ofInt_natCast, BitVec.toNat_ofNat, BitVec.toNat_ofNat, Nat.mod_eq_of_lt (by omega), Nat.mod_eq_of_lt (by omega), IntKind.wrap_u8]
  omega
theorem getNat {f : List Int} (h : ∀ n ∈ f, (Lit.int .u8 n).wf = true) {k : Nat} (hk : k < f.length) : ∃ x : Nat, f.getD k 0 = (x : Int) ∧ x < 256 := by
  have hm := bounds_u8 (h _ (mem_getD hk rfl))
  exact ⟨(f.getD k 0).toNat, by omega, by omega⟩
theorem flip_at {f : List Int} {i q b x : Nat} (hx : f.getD q 0 = (x : Int)) (hi : i = 8 * q + b) (hb : b < 8) : flip i f = f.set q ((x ^^^ 2 ^ b : Nat) : Int) := by
  have e1 : i / 8 = q := by omega
  have e2 : i % 8 = b := by omega
  unfold flip
  rw [e1, e2, hx, Int.toNat_natCast]
theorem u8_wf {m : Nat} (h : m < 256) : (Lit.int .u8 (m : Int)).wf = true := WalkArith.wf_u8 (by omega)
theorem flipV_lt {x b : Nat} (hx : x < 256) (hb : b < 8) : x ^^^ 2 ^ b < 256 :=
  Nat.xor_lt_two_pow (n := 8) hx (Nat.pow_lt_pow_right (by omega) hb)
theorem rd_mark {k : IntKind} (w : World) (E : TypeId) (fr : Nat × Nat) (xs : List Int) (hp : 0 < xs.length) (hm : xs.length ≤ maxLen) (hw : ∀ n ∈ xs, (Lit.int k n).wf = true) :
    Rd k (w.alloc (.cells (xs.map (Value.int k)).toArray E fr)) (.slice (some ⟨w.heap.size, 0, none⟩) xs.length xs.length) xs := by
  refine ⟨hw, .inr ⟨hp, w.heap.size, 0, xs.length, rfl, Nat.le_refl _, hm, fun i hi => ?_⟩⟩
  rw [Nat.zero_add, World.cell?_alloc_mark]
  simp [hi]
theorem rd_nine (w : World) (E : TypeId) (fr : Nat × Nat) : Rd .u8 (w.alloc (.cells #[.int .u8 49, .int .u8 50, .int .u8 51, .int .u8 52, .int .u8 53, .int .u8 54, .int .u8 55, .int .u8 56, .int .u8 57] E fr)) (.slice (some ⟨w.heap.size, 0, none⟩) 9 9) [49, 50, 51, 52, 53, 54, 55, 56, 57] :=
  rd_mark w E fr [49, 50, 51, 52, 53, 54, 55, 56, 57] (by decide) (by decide) (by decide)
theorem crc_nine : crc [49, 50, 51, 52, 53, 54, 55, 56, 57] = 36974 := by decide +kernel
set_option maxRecDepth 100000 in
set_option maxHeartbeats 400000 in
theorem walk {v0 : Value} (z0 : List Int) (w : World) (w0 : Rd .u8 w v0 z0) :
    Calls Try.prog 6 #[v0] w fun e w' => e = .returned (.bool true) ∧ Below w.heap.size w w' := by
  have q0 := w0.b
  have len0 := w0.len_le
  by_cases big0 : 1048576 < z0.length
  · have HB := Lib.hid (laws_big v0 z0 w w0)
    rw [decide_eq_true big0] at HB
    obtain ⟨ad0, c0, rfl⟩ := w0.shape
    clear w0 q0
    go_enter Try.func6, Try.ntmps6
    go_wp2_with fail
    refine HB.out.mono ?_
    rintro e w1 ⟨rfl, rfl⟩
    go_wp2
    go_ret
    exact ⟨rfl, Below.refl _ _⟩
  have HB := Lib.hid (laws_big v0 z0 w w0)
  rw [decide_eq_false big0] at HB
  obtain ⟨ad0, c0, rfl⟩ := w0.shape
  have le0 : z0.length ≤ 1048576 := by omega
  clear big0
  go_enter Try.func6, Try.ntmps6
  go_wp2_with fail
  refine HB.out.mono ?_
  rintro e w1 ⟨rfl, rfl⟩
  clear HB
  go_wp2_with fail
  refine (DrawAppendCrc _ z0 _ w0 (by omega)).mono ?_
  rintro e w2 ⟨⟨u, ys, rfl, o2, hy⟩, b2⟩
  go_wp2_with fail
  refine (impl_AppendCrc _ _ _ o2.rd (by omega)).mono ?_
  rintro e w3 ⟨v3, rfl, o3, b3⟩
  have B3 := below_next b2 b3
  have r3 := o2.rd.keep b3
  have hlen : (appCrc ys).length = ys.length + 2 := appCrc_len ys
  have hok := okC_app ys
  have CC := fun W (h : Rd .u8 W v3 (appCrc ys)) => impl_CheckCrc v3 (appCrc ys) W h (by omega)
  rw [chk_app, hok] at CC
  have hcr : Hid (∀ W v, Rd .u8 W v ys → Rd .u8 W u ys → Calls Try.prog 24 #[v, u] W fun e w' => e = .returned (.bool true) ∧ Below W.heap.size W w') :=
    Lib.hid fun W v h k => (laws_sameBytes v u ys ys W h k).mono fun e w' q => ⟨by rw [q.1, decide_eq_true (rfl : ys = ys)], q.2⟩
  obtain ⟨f, hf⟩ : ∃ f, f = appCrc ys := ⟨_, rfl⟩
  rw [← hf] at o3 hlen hok CC
  have HCC := Lib.hid CC
  have HOK := Lib.hid hok
  clear hf CC hok
  obtain ⟨ad2, c2, rfl⟩ := r3.shape
  rcases o3.parts with ⟨h0, _⟩ | ⟨_, g3, c3, rfl⟩
  · rw [h0] at hlen; simp at hlen
  have HL : Hid (f.length = ys.length + 2) := Lib.hid hlen
  have hne : ((f.length : Int) != (ys.length : Int) + 2) = false := by simp; omega
  have hf2 : 2 ≤ f.length := by omega
  have hf12 : f.length ≤ 12 := by omega
  clear hlen
  go_wp2_with fail
  refine (HCC.out _ o3.rd).mono ?_
  rintro e w4 ⟨v4, rfl, o4, b4⟩
  have B4 := below_next B3 b4
  have r4 := r3.keep b4
  have f4 := o3.rd.keep b4
  go_wp2_with fail
  refine (hcr.out _ _ o4.rd r4).mono ?_
  rintro e w5 ⟨rfl, b5⟩
  have B5 := below_next B4 b5
  have f5 := f4.keep b5
  have ho5 := (o3.keep b4 (Nat.le_refl _)).keep b5 b4.size
  clear r3 r4 f4 o3 o4 b4 b5 b3 B3 B4
  go_wp2_with fail
  refine (laws_at _ z0 0 _ (w0.keep B5) (by omega) le0).mono ?_
  rintro e w8 ⟨rfl, rfl⟩
  have ha0 := atN_lt w0.wf 0
  generalize atN z0 0 = a0 at ha0 ⊢
  go_wp2_with fail
  refine (laws_at _ z0 1 _ (w0.keep B5) (by omega) le0).mono ?_
  rintro e w8 ⟨rfl, rfl⟩
  have ha1 := atN_lt w0.wf 1
  generalize atN z0 1 = a1 at ha1 ⊢
  go_wp2_with (at_builtin; refine wpList_app _ rfl (.tmp 53) (.tmp 54) 24 rfl w5.heap.size 5 .u8 1 Try.underlying24 info8 (by omega) _ _ [] f rfl rfl (own_lit0 _ (Nat.le_refl _)) (f5.keep ((Below.refl _ _).alloc (Nat.le_refl _) _)) (by simp; omega) (by simp) ?_)
  intro v6 w6 o6 b6
  have b6' : Below w5.heap.size w5 w6 := ((Below.refl _ _).alloc (Nat.le_refl _) _).trans b6
  have B6 := below_next B5 b6'
  rcases o6.parts with ⟨h0, _⟩ | ⟨_, g, c6, rfl⟩
  · have h0' : f = [] := h0
    rw [h0'] at hf2; simp at hf2
  have hi : a0 % (8 * f.length) < 8 * f.length := Nat.mod_lt _ (by omega)
  have hj : a1 % (8 * f.length) < 8 * f.length := Nat.mod_lt _ (by omega)
  have HI := Lib.hid (show ((a0 % (8 * f.length) : Nat) : Int) = (a0 : Int) % (8 * (f.length : Int)) by simp)
  have HJ := Lib.hid (show ((a1 % (8 * f.length) : Nat) : Int) = (a1 : Int) % (8 * (f.length : Int)) by simp)
  go_wp2_with fail
  rw [← HI.out, ← HJ.out]
  clear HI HJ
  generalize a0 % (8 * f.length) = i at hi ⊢
  generalize a1 % (8 * f.length) = j at hj ⊢
  clear ha0 ha1
  have HF12 := Lib.hid hf12
  have HOB := Lib.hid (one_bad (i := i) o6.rd.wf hf12 HOK.out hi)
  have HTB := Lib.hid (fun hij => two_bad (i := i) (j := j) o6.rd.wf hf12 HOK.out hi hj hij)
  obtain ⟨x, hx, hx2⟩ := getNat o6.rd.wf (k := i / 8) (by omega)
  obtain ⟨q, hq⟩ : ∃ q, q = i / 8 := ⟨_, rfl⟩
  obtain ⟨b, hb⟩ : ∃ b, b = i % 8 := ⟨_, rfl⟩
  have hb8 : b < 8 := by omega
  have hqf : q < f.length := by omega
  have e1 : (i : Int) / 8 = (q : Int) := by omega
  have e2 : (i : Int) % 8 = (b : Int) := by omega
  rw [← hq] at hx
  have hcell := o6.cell (j := q) (by omega)
  have hfz := o6.frozen q
  rw [hx] at hcell
  have HF : Hid (flip i f = f.set q ((x ^^^ 2 ^ b : Nat) : Int)) := Lib.hid (flip_at hx (by omega) hb8)
  have HV := Lib.hid (flipV hx2 hb8)
  have hst := o6.stored (j := q) (u8_wf (flipV_lt hx2 hb8))
  rw [← HF.out] at hst
  generalize x ^^^ 2 ^ b = m at HV hst
  have HST := Lib.hid hst
  clear hx hq hb hst HF
  go_region
  rw [HV.out]
  have HFL : Hid ((flip i f).length = f.length) := Lib.hid (flip_len i f)
  have CF := fun W v (h : Rd .u8 W v (flip i f)) => impl_CheckCrc v _ W h (by rw [HFL.out]; omega)
  rw [HOB.out] at CF
  obtain ⟨F, hF⟩ : ∃ F, F = flip i f := ⟨_, rfl⟩
  rw [← hF] at CF HST HTB HFL
  have HCF := Lib.hid CF
  clear CF hF HOB HV e1 e2 hcell hfz
  have o7 := HST.out.1
  have b7' : Below w5.heap.size w5 (w6.setCell ⟨g, q, none⟩ (.int .u8 (m : Int))) := b6'.trans (HST.out.2.below (Nat.le_refl _) b6'.size)
  generalize w6.setCell ⟨g, q, none⟩ (.int .u8 (m : Int)) = w7 at o7 b7' ⊢
  have B7 : Below w.heap.size w w7.drew := (below_next B5 b7').drew
  replace o7 : Own .u8 5 w7.drew _ _ _ _ := o7.drew
  clear HST b7' B6 b6' o6 b6
  generalize w7.drew = w8 at B7 o7 ⊢
  go_wp2_with fail
  refine (HCF.out _ _ o7.rd).mono ?_
  rintro e w9 ⟨v9, rfl, o9, b9⟩
  have B9 := below_next B7 b9
  replace o7 := o7.top.keep b9 (Nat.le_refl _)
  by_cases hij : i = j
  · have hd : ((i : Int) != (j : Int)) = false := by simp; omega
    clear hij
    have CN : ∀ W v, Rd .u8 W v [49, 50, 51, 52, 53, 54, 55, 56, 57] → Calls Try.prog 26 #[v] W fun e w' => e = .returned (.int .i64 36974) ∧ W = w' := fun W v h => by
      have := impl_Crc16_same v _ W h
      rw [crc_nine] at this
      exact this
    have HN := Lib.hid CN
    clear CN
    have kc := fun (w : World) (C : Array Value) (n c : Nat) => Lib.run_convert_bytes_const (P := Try.prog) w 24 5 C n c Try.underlying24 Try.underlying5
    go_wp2_with fail
    refine (HN.out _ _ (rd_nine w9 _ _)).mono ?_
    rintro e w20 ⟨rfl, rfl⟩
    go_wp2_with fail
    go_ret
    exact ⟨rfl, (B9).alloc (by have := (B9).size; omega) _⟩
  · have hd : ((i : Int) != (j : Int)) = true := by simp; omega
    have HT2 := Lib.hid (HTB.out hij)
    have HFL2 := HFL.out
    clear HTB hij
    obtain ⟨x', hx', hx2'⟩ := getNat o7.rd.wf (k := j / 8) (by omega)
    obtain ⟨q', hq'⟩ : ∃ q, q = j / 8 := ⟨_, rfl⟩
    obtain ⟨b', hb'⟩ : ∃ b, b = j % 8 := ⟨_, rfl⟩
    have hb8' : b' < 8 := by omega
    have hqf' : q' < f.length := by omega
    have e1' : (j : Int) / 8 = (q' : Int) := by omega
    have e2' : (j : Int) % 8 = (b' : Int) := by omega
    rw [← hq'] at hx'
    have hcell' := o7.cell (j := q') (by omega)
    have hfz' := o7.frozen q'
    rw [hx'] at hcell'
    have HF' : Hid (flip j F = F.set q' ((x' ^^^ 2 ^ b' : Nat) : Int)) := Lib.hid (flip_at hx' (by omega) hb8')
    have HV' := Lib.hid (flipV hx2' hb8')
    have hst := o7.stored (j := q') (u8_wf (flipV_lt hx2' hb8'))
    rw [← HF'.out] at hst
    generalize x' ^^^ 2 ^ b' = m' at HV' hst
    have HST := Lib.hid hst
    have CF := fun W v (h : Rd .u8 W v (flip j F)) => impl_CheckCrc v _ W h (by rw [flip_len, HFL.out]; omega)
    rw [HT2.out] at CF
    have HCF2 := Lib.hid CF
    clear hx' hq' hb' hst HF' CF HT2 HFL2
    go_wp2_with fail
    go_region
    rw [HV'.out]
    have o10 := HST.out.1
    have bl := o7.blk
    have b10' : Below w.heap.size w (w9.setCell ⟨g, q', none⟩ (.int .u8 (m' : Int))) := B9.trans (HST.out.2.below (by have := B5.size; omega) B9.size)
    generalize w9.setCell ⟨g, q', none⟩ (.int .u8 (m' : Int)) = w10 at o10 b10' ⊢
    have B10 : Below w.heap.size w w10.drew := b10'.drew
    replace o10 : Own .u8 5 w10.drew _ _ _ _ := o10.drew
    clear HST b10' hcell' hfz' e1' e2' HV'
    generalize w10.drew = w11 at B10 o10 ⊢
    go_wp2_with fail
    refine (HCF2.out _ _ o10.rd).mono ?_
    rintro e w12 ⟨v12, rfl, o12, b12⟩
    have B12 := below_next B10 b12
    have CN : ∀ W v, Rd .u8 W v [49, 50, 51, 52, 53, 54, 55, 56, 57] → Calls Try.prog 26 #[v] W fun e w' => e = .returned (.int .i64 36974) ∧ W = w' := fun W v h => by
      have := impl_Crc16_same v _ W h
      rw [crc_nine] at this
      exact this
    have HN := Lib.hid CN
    clear CN
    have kc := fun (w : World) (C : Array Value) (n c : Nat) => Lib.run_convert_bytes_const (P := Try.prog) w 24 5 C n c Try.underlying24 Try.underlying5
    go_wp2_with fail
    refine (HN.out _ _ (rd_nine w12 _ _)).mono ?_
    rintro e w20 ⟨rfl, rfl⟩
    go_wp2_with fail
    go_ret
    exact ⟨rfl, (B12).alloc (by have := (B12).size; omega) _⟩
set_option maxRecDepth 100000 in
theorem lifted (os : Os) (started : os.Started) (H : Type) (enc : TypeId × Value → H) :
    ReturnsInHanded {} Try.checked os 6 .any (Rows.fnChecksumsSpec.pre6 enc Try.prog Try.f6 Rows.fnChecksumsRow.domain false) (Rows.fnChecksumsSpec.post enc Try.prog Try.f6 false true false false) := by
  refine returnsInHanded_of_change (C := Try.checked) own started (by kernel_rfl) Try.func6
    (ChangeSpec.witness6 (enc := enc) (C := Try.checked) false ⟨#[], #[.slice none 0 0], []⟩ 8 (by kernel_rfl) (by kernel_rfl) (by kernel_rfl) (by kernel_rfl)) ?_
  intro W base args ds gs before hval0 hW hcnd _
  have hval : ∀ (j : Nat) t v, Try.f6.params[j]? = some t → args[j]? = some v → Value.okWide Try.prog W .any base t v := hval0
  have hW' := hW
  obtain ⟨p, q, hA0, hV, rfl, hfz, hnd⟩ := hW
  have hA : DataW.TrodAll enc Try.prog W 0 (fun _ => true) true Try.f6.params.toList args.toList ds p := hA0
  rw [Try.params6] at hA hval
  obtain ⟨v0, vs0, d0, ds0, p0, q0, hargs, rfl, rfl, h0, r0⟩ := trodAll_cons hA
  obtain ⟨rfl, rfl, rfl⟩ := trodAll_nil r0
  obtain rfl : args = #[v0] := by cases args; simp_all
  obtain ⟨rfl, rfl⟩ := trodVars_none hV
  obtain ⟨a0, len0, cap0, rfl⟩ := okWide_slice Try.underlying24 (hval 0 24 v0 rfl rfl)
  have k0 := h0
  have lt0 : ∀ x ∈ p0, x.block < W.heap.size := by obtain ⟨m, hm⟩ := k0; exact DataW.trod_lt m _ _ _ hm
  obtain ⟨z0, w0⟩ : ∃ zs, Rd .u8 W (.slice a0 len0 cap0) zs := by
    obtain ⟨fuel, hf⟩ := h0
    rcases open_ints Try.underlying24 Try.underlying5 (by kernel_rfl) hf with ⟨hcs, _⟩ | ⟨x, l, c, zs, hcs, _, hl, hm, hz, _, hcell, hwz⟩
    · simp [Value.cells] at hcs
      obtain ⟨rfl, rfl, rfl⟩ := hcs
      exact ⟨[], Rd.nil _ _⟩
    · simp [Value.cells] at hcs
      obtain ⟨rfl, rfl, rfl⟩ := hcs
      exact ⟨zs.take len0, Rd.of_row hl hm (by simpa using hz) hcell hwz⟩
  clear hA0 hval0
  refine (walk z0 W w0).mono fun e W' ⟨he, bel⟩ => ?_
  subst he
  exact ⟨_, rfl, _, _, _, [], _, [], hW', trodAll_mk1 (shut_bool Try.underlying4 _), (trodAll_cons_mk (Below.trod laidOut (by kernel_rfl) (of_decide_eq_true (by kernel_rfl)) k0 bel lt0) trodAll_mk0), rfl, bel.frame _, fun h => by cases h⟩

theorem over : Rows.fnChecksumsRow.holds Try.pinned (OpenSpec.ofChange Rows.fnChecksumsSpec) :=
  OpenClaim.holds_of_wide 6 Try.f6 rfl rfl rfl rfl rfl rfl rfl ⟨rfl, rfl, rfl, rfl, rfl⟩ rfl rfl rfl rfl rfl (by kernel_rfl) Try.func6 (by kernel_rfl)
    (of_decide_eq_true (by kernel_rfl)) (by unfold Func.isWrapper; first | (rw [if_pos (by decide +kernel)]; kernel_rfl) | (rw [if_neg (by decide +kernel)]; exact ⟨rfl, rfl⟩))
    (fun os started H enc _ => lifted os started H enc)

theorem proved : Rows.FnChecksumsSaid := over
#print axioms proved
end Go.Proofs.Ytdgffiaciccimaa.fnChecksums


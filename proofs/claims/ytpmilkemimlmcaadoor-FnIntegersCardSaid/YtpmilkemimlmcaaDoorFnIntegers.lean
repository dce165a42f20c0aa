/- FnIntegers: for every input the law's Go function returns true and leaves its arguments as they were. Conditions: none. -/
import Derived.Test.YtpmilkemimlmcaaDoorRows
import Derived.Test.YtpmilkemimlmcaaDoorCards
import Derived.Test.YtpmilkemimlmcaaDoorTie
import Derived.WalkKit
import Derived.ProofKit
import Derived.OpenShut
import Derived.ShutString
import Derived.ChangeOld
import Derived.Below
import Derived.LaidMore
import Derived.Stop.Joined
import Derived.Stop.LaidErr
import Derived.SevenTiedAt
import Derived.Lib.LaidTab
import Derived.Test.YtpmilkemimlmcaaDoorCBig
import Derived.Test.YtpmilkemimlmcaaDoorCMod
import Derived.Test.YtpmilkemimlmcaaDoorCParse
import Derived.Test.YtpmilkemimlmcaaDoorCDrawG
import Derived.Test.YtpmilkemimlmcaaDoorCFmtI
import Derived.Test.YtpmilkemimlmcaaDoorCIntLaw
import Derived.Deep.Cut
namespace Go.Proofs.YtpmilkemimlmcaaDoor.fnIntegers
open Go.ChangeShapes Go.WideShapes Go.ChangeAt Go.RowKit
open Go.ChangeMaps (open_string shut_string)
set_option linter.unusedVariables false

theorem own : ownKnob Tryd.prog.godebug = none := by kernel_rfl
theorem laidOut : laidOutB Tryd.prog = true := by kernel_rfl


theorem ba_back (s : ByteArray) : (⟨s.data.toList.toArray⟩ : ByteArray) = s := by simp
theorem fmt_back {s : ByteArray} (h : pOk s.data.toList = true) : (⟨(Lib.itoa ((pVal s.data.toList : Nat) : Int)).toArray⟩ : ByteArray) = s := by
  rw [itoa_back h, ba_back]
theorem pVal_le (l : List UInt8) : pVal l ≤ 1000000000000 := by
  by_cases h : pOk l = true
  · exact (pOk_dec h).2
  · unfold pVal; rw [if_neg h]; omega
/-- The cases of CeilDiv's and Mod's answers. -/
theorem int_tail (a b : Int) :
    (b < 1 ∧ cdv a b = 0 ∧ modI a b = 0) ∨ (1 ≤ b ∧ 1000000000000 < b ∧ cdv a b = 0 ∧ modI a b = 0) ∨
    ((1 ≤ b ∧ b ≤ 1000000000000) ∧ (0 ≤ modI a b ∧ modI a b < b) ∧
      ((a < 0 ∧ cdv a b = 0 ∧ ∃ y, a.tmod b = y ∧ (-b < y ∧ y ≤ 0) ∧ (y - modI a b).tmod b = 0) ∨ (1000000000000 < a ∧ cdv a b = 0 ∧ a % b = modI a b) ∨
       ((0 ≤ a ∧ a ≤ 1000000000000) ∧ a % b = modI a b ∧ a ≤ cdv a b * b ∧ cdv a b * b - a < b))) := by
  by_cases h1 : 1 ≤ b
  · by_cases h2 : b ≤ 1000000000000
    · refine .inr (.inr ⟨⟨h1, h2⟩, ?_, ?_⟩)
      · rw [modI_in h1 h2]
        exact ⟨Int.emod_nonneg a (by omega), Int.emod_lt_of_pos a (by omega)⟩
      · rw [modI_in h1 h2]
        by_cases h3 : a < 0
        · obtain ⟨t1, t2, t3⟩ := tmod_neg h3 h1
          refine .inl ⟨h3, if_neg (by omega), _, rfl, ⟨t1, t2⟩, ?_⟩
          rcases t3 with ⟨e1, e2⟩ | ⟨e1, e2⟩
          · rw [e1, e2, Int.sub_zero, Int.zero_tmod]
          · rw [e2, show a.tmod b - (a.tmod b + b) = -b by omega, Int.neg_tmod, Int.tmod_self, Int.neg_zero]
        · by_cases h4 : a ≤ 1000000000000
          · refine .inr (.inr ⟨⟨by omega, h4⟩, rfl, ?_⟩)
            rw [show cdv a b = (a + b - 1) / b from if_pos ⟨⟨by omega, h4⟩, h1, h2⟩]
            exact ceil_law h1
          · exact .inr (.inl ⟨by omega, if_neg (by omega), rfl⟩)
    · exact .inr (.inl ⟨h1, by omega, if_neg (by omega), if_neg (by omega)⟩)
  · exact .inl ⟨by omega, if_neg (by omega), if_neg (by omega)⟩
/-- The cases of ParseInt's answer at a decimal form. -/
theorem int_mid {m k : Int} {fine : Bool} (h : fine = (decide (0 ≤ m) && decide (m ≤ 1000000000000))) (hk : 0 ≤ m → m ≤ 1000000000000 → k = m) :
    (m < 0 ∧ fine = false) ∨ (0 ≤ m ∧ 1000000000000 < m ∧ fine = false) ∨ (0 ≤ m ∧ m ≤ 1000000000000 ∧ fine = true ∧ k = m) := by
  by_cases h0 : 0 ≤ m
  · by_cases h1 : m ≤ 1000000000000
    · exact .inr (.inr ⟨h0, h1, by rw [h, decide_eq_true h0, decide_eq_true h1]; rfl, hk h0 h1⟩)
    · exact .inr (.inl ⟨h0, by omega, by rw [h, decide_eq_false h1, Bool.and_false]⟩)
  · exact .inl ⟨by omega, by rw [h, decide_eq_false h0]; rfl⟩
set_option maxRecDepth 100000 in
set_option maxHeartbeats 3200000 in
theorem walk {v0 : Value} (z0 : List Int) (w : World) (w0 : Rd .u8 w v0 z0) (ht : Tab w) :
    Calls Tryd.prog 4 #[v0] w fun e w' => e = .returned (.bool true) ∧ Below w.heap.size w w' := by
  have q0 := w0.b
  have len0 := w0.len_le
  by_cases big0 : 1048576 < z0.length
  · have HB := Lib.hid (laws_big v0 z0 w w0)
    rw [decide_eq_true big0] at HB
    obtain ⟨ad0, c0, rfl⟩ := w0.shape
    clear w0 q0 ht
    go_enter Tryd.func4, Tryd.ntmps4
    go_wp2_with fail
    refine HB.out.mono ?_
    rintro e w1 ⟨rfl, rfl⟩
    go_wp2
    go_ret
    exact ⟨rfl, Below.refl _ _⟩
  have HB := Lib.hid (laws_big v0 z0 w w0)
  rw [decide_eq_false big0] at HB
  obtain ⟨ad0, c0, rfl⟩ := w0.shape
  have le0 : z0.length ≤ 1048576 := by omega
  have HT := Lib.hid ht
  clear big0 ht
  go_enter Tryd.func4, Tryd.ntmps4
  go_wp2_with fail
  refine HB.out.mono ?_
  rintro e w1 ⟨rfl, rfl⟩
  clear HB
  go_wp2_with fail
  refine (DrawParseInt _ z0 _ w0 (by omega)).mono ?_
  rintro e w2 ⟨⟨s, rfl, hs⟩, b2⟩
  have CP := Lib.hid (impl_ParseInt s w2 (by omega))
  have HV := Lib.hid (pVal_le s.data.toList)
  have HS := Lib.hid (fun h => fmt_back (s := s) h)
  clear hs
  go_wp2_with fail
  refine (CP.out).mono ?_
  rintro e w3 ⟨rfl, rfl⟩
  clear CP
  obtain ⟨n, hn⟩ : ∃ n : Int, n = ((pVal s.data.toList : Nat) : Int) := ⟨_, rfl⟩
  obtain ⟨ok, hok⟩ : ∃ b : Bool, b = pOk s.data.toList := ⟨_, rfl⟩
  have n0 : 0 ≤ n := by omega
  have n1 : n ≤ 1000000000000 := by have := HV.out; omega
  rw [← hn, ← hok] at HS
  rw [← hn, ← hok]
  clear hn hok HV
  go_wp2_with fail
  refine (DrawFormatInt _ z0 _ (w0.keep b2) (by omega)).mono ?_
  rintro e w3 ⟨⟨m, rfl, m0, m1⟩, b3⟩
  have B3 := below_next b2 b3
  clear b2 b3
  go_wp2_with fail
  refine (impl_FormatInt m _ m0 m1 (HT.out.keep B3)).mono ?_
  rintro e w4 ⟨rfl, b4⟩
  have B4 := below_next B3 b4
  clear B3 b4
  have cp := impl_ParseInt ⟨(Lib.itoa m).toArray⟩ w4 (Nat.le_trans (itoa_size m0 m1) (by omega))
  unfold Parsed at cp
  rw [show (⟨(Lib.itoa m).toArray⟩ : ByteArray).data.toList = Lib.itoa m from rfl] at cp
  have HF := itoa_ok m
  have HK := fun h0 h1 => itoa_val (m := m) h0 h1
  obtain ⟨k, hk⟩ : ∃ k : Int, k = ((pVal (Lib.itoa m) : Nat) : Int) := ⟨_, rfl⟩
  obtain ⟨fine, hfine⟩ : ∃ b : Bool, b = pOk (Lib.itoa m) := ⟨_, rfl⟩
  obtain ⟨t, ht⟩ : ∃ t : ByteArray, t = ⟨(Lib.itoa m).toArray⟩ := ⟨_, rfl⟩
  have k0 : 0 ≤ k := by omega
  have k1 : k ≤ 1000000000000 := by have := pVal_le (Lib.itoa m); omega
  rw [← hk] at HK
  rw [← hfine] at HF
  rw [← ht, ← hk, ← hfine] at cp
  rw [← ht]
  have CP := Lib.hid cp
  replace HF := Lib.hid HF
  replace HK := Lib.hid HK
  clear hk hfine ht cp
  go_wp2_with fail
  refine (CP.out).mono ?_
  rintro e w5 ⟨rfl, rfl⟩
  clear CP
  go_wp2_with fail
  refine (DrawCeilDiv _ z0 _ (w0.keep B4) (by omega)).mono ?_
  rintro e w6 ⟨⟨a, b, rfl, ha, hb⟩, b6⟩
  have B6 := below_next B4 b6
  clear B4 b6
  have CC := Lib.hid (impl_CeilDiv a b w6 ha hb)
  have CM := Lib.hid (impl_Mod a b w6 ha hb)
  obtain ⟨a0, a1⟩ := ha
  obtain ⟨bl, bu⟩ := hb
  go_wp2_with fail
  refine (CC.out).mono ?_
  rintro e w7 ⟨rfl, rfl⟩
  go_wp2_with fail
  refine (CM.out).mono ?_
  rintro e w8 ⟨rfl, rfl⟩
  clear CC CM
  have CF := Lib.hid (impl_FormatInt n w6 (by omega) (by omega) (HT.out.keep B6))
  have HA := int_tail a b
  have HM := int_mid HF.out HK.out
  obtain ⟨q, hq⟩ : ∃ q, q = cdv a b := ⟨_, rfl⟩
  obtain ⟨r, hr⟩ : ∃ r, r = modI a b := ⟨_, rfl⟩
  rw [← hq, ← hr] at HA
  rw [← hq, ← hr]
  clear hq hr HF HK w0 q0 len0 le0
  go_upto_region 10 with fail
  go_cut [65] from 13 (fun c wx => c = .bool false ∧ Below w.heap.size w wx)
  case first =>
    clear HA
    cases ok
    · clear CF HS
      rcases HM with ⟨hm, rfl⟩ | ⟨hm, hm2, rfl⟩ | ⟨hm, hm2, rfl, rfl⟩
      all_goals
        go_wp2_with fail
        go_meet
        case rel => exact ⟨congrArg Value.bool (by first | rfl | exact decide_eq_false (by omega)), B6⟩
    · have hss : (⟨(Lib.itoa n).toArray⟩ : ByteArray) = s := HS.out rfl
      rw [hss] at CF
      clear hss HS
      rcases HM with ⟨hm, rfl⟩ | ⟨hm, hm2, rfl⟩ | ⟨hm, hm2, rfl, rfl⟩
      all_goals
        go_wp2_with fail
        refine (CF.out).mono ?_
        rintro e w9 ⟨rfl, b9⟩
        have B9 := below_next B6 b9
        clear b9
        go_wp2_with fail
        go_meet
        case rel => exact ⟨congrArg Value.bool (by first | rfl | exact decide_eq_false (by omega)), B9⟩
  case rest =>
    obtain ⟨rfl, hb⟩ := hcut
    clear CF HS HM HT
    rcases HA with ⟨h1, rfl, rfl⟩ | ⟨h1, h2, rfl, rfl⟩ | ⟨⟨h1, h2⟩, ⟨h3, h4⟩, ⟨h5, rfl, y, h6, ⟨h7, h8⟩, h9⟩ | ⟨h5, rfl, h6⟩ | ⟨⟨h5, h6⟩, h7, h8, h9⟩⟩
    all_goals
      go_wp2_with fail
      go_ret
      exact ⟨rfl, hb⟩

theorem door_met (os : Os) (args : Array Value) : laidMetH Tryd.prog Rows.fnIntegersRow.laid ((World.doorLaid Tryd.prog 24 os).forCall (fun _ _ => 0) ⟨#[], args, []⟩).memory :=
  laidMetH_of_parts3 (fuel := 8) (laidMet_of_run' 8 (by kernel_rfl) (by kernel_rfl)) (by kernel_rfl) (by kernel_rfl)
theorem of_laid {W : World} (h : laidMetH Tryd.prog Rows.fnIntegersRow.laid W) : Tab W := by
  rw [MakeChecks.laidMetH_plain _ _ _ (by kernel_rfl)] at h
  have h1 : laidMet Tryd.prog [(tabName, Lib.tabData .u64 Lib.pow10Tab)] W := laidMet.tail (laidMet.tail h)
  exact Lib.tabIs_of_head (g := 0) (t := 55) (e := 47) (n := 20) (by kernel_rfl) (by kernel_rfl) Tryd.underlying55 Tryd.underlying47 (by kernel_rfl) (by kernel_rfl) h1

set_option maxRecDepth 100000 in
theorem lifted (os : Os) (started : os.Started) (H : Type) (enc : TypeId × Value → H) :
    ReturnsInHanded {} Tryd.checked os 4 .any (fun w args => (Rows.fnIntegersSpec.pre enc Tryd.prog Tryd.f4 [] false w args ∧ laidMetH Tryd.prog Rows.fnIntegersRow.laid w) ∧ sizedMet enc Tryd.prog Tryd.f4 (OpenSpec.ofChange Rows.fnIntegersSpec) false w args) (Rows.fnIntegersSpec.post enc Tryd.prog Tryd.f4 false true false false) := by
  refine returnsInHanded_of_change_and (C := Tryd.checked) (X := fun w _ => laidMetH Tryd.prog Rows.fnIntegersRow.laid w) (fun _ _ _ hh h => h.of_heap hh) own started (by kernel_rfl) Tryd.func4
    (ChangeSpec.witness_shaped (enc := enc) (C := Tryd.checked) (os := os) (X := fun w _ => laidMetH Tryd.prog Rows.fnIntegersRow.laid w) false (World.doorLaid Tryd.prog 24 os) #[.slice none 0 0] 8 rfl (World.shaped_of_RefB (by kernel_rfl) (by kernel_rfl)) (by kernel_rfl) (by kernel_rfl) (by kernel_rfl) (door_met os _)) ?_
  intro W base args ds gs before hval0 hW _ _ hL _
  have hval : ∀ (j : Nat) t v, Tryd.f4.params[j]? = some t → args[j]? = some v → Value.okWide Tryd.prog W .any base t v := hval0
  have hW' := hW
  obtain ⟨p, q, hA0, hV, rfl, hfz, hnd⟩ := hW
  have hA : DataW.TrodAll enc Tryd.prog W 0 (fun _ => true) true Tryd.f4.params.toList args.toList ds p := hA0
  rw [Tryd.params4] at hA hval
  obtain ⟨v0, vs0, d0, ds0, p0, q0, hargs, rfl, rfl, h0, r0⟩ := trodAll_cons hA
  obtain ⟨rfl, rfl, rfl⟩ := trodAll_nil r0
  obtain rfl : args = #[v0] := by cases args; simp_all
  obtain ⟨rfl, rfl⟩ := trodVars_none hV
  obtain ⟨a0, len0, cap0, rfl⟩ := okWide_slice Tryd.underlying24 (hval 0 24 v0 rfl rfl)
  have k0 := h0
  have lt0 : ∀ x ∈ p0, x.block < W.heap.size := by obtain ⟨m, hm⟩ := k0; exact DataW.trod_lt m _ _ _ hm
  obtain ⟨z0, w0⟩ : ∃ zs, Rd .u8 W (.slice a0 len0 cap0) zs := by
    obtain ⟨fuel, hf⟩ := h0
    rcases open_ints Tryd.underlying24 Tryd.underlying5 (by kernel_rfl) hf with ⟨hcs, _⟩ | ⟨x, l, c, zs, hcs, _, hl, hm, hz, _, hcell, hwz⟩
    · simp [Value.cells] at hcs
      obtain ⟨rfl, rfl, rfl⟩ := hcs
      exact ⟨[], Rd.nil _ _⟩
    · simp [Value.cells] at hcs
      obtain ⟨rfl, rfl, rfl⟩ := hcs
      exact ⟨zs.take len0, Rd.of_row hl hm (by simpa using hz) hcell hwz⟩
  have tab := of_laid hL
  clear hA0 hval0
  refine (walk z0 W w0 tab).mono fun e W' ⟨he, bel⟩ => ?_
  subst he
  exact ⟨_, rfl, _, _, _, [], _, [], hW', trodAll_mk1 (shut_bool Tryd.underlying4 _), (trodAll_cons_mk (Below.trod laidOut (by kernel_rfl) (of_decide_eq_true (by kernel_rfl)) k0 bel lt0) trodAll_mk0), rfl, bel.frame _, fun h => by cases h⟩

theorem over : Rows.fnIntegersRow.holds Tryd.pinned (OpenSpec.ofChange Rows.fnIntegersSpec) :=
  OpenClaim.holds_of_wide 4 Tryd.f4 rfl rfl rfl rfl rfl rfl rfl ⟨rfl, rfl, rfl, rfl, rfl⟩ rfl rfl rfl rfl rfl (by kernel_rfl) Tryd.func4 (by kernel_rfl)
    (of_decide_eq_true (by kernel_rfl)) (by unfold Func.isWrapper; first | (rw [if_pos (by decide +kernel)]; kernel_rfl) | (rw [if_neg (by decide +kernel)]; exact ⟨rfl, rfl⟩))
    (fun os started H enc _ => lifted os started H enc)

theorem proved : Rows.FnIntegersCardSaid :=
  Claim7.holds_tied_plain_at .later [] [.data, .data, .data] true (true, "bf5d9c640a85d65d5917b25aec5e34ed34163da7a6a83a4e5e4345a1003715e2") false
    over (fun _ h => by cases h) (by kernel_rfl) (fun _ h => by cases h) fnIntegers_row_tie rfl ⟨rfl, rfl⟩ (by kernel_rfl) rfl
    (fun f fn hf hfn => by
      obtain rfl : f = 4 := Option.some.inj ((show Tryd.prog.funcNamed Rows.fnIntegersRow.func = some 4 by kernel_rfl).symm.trans hf) |>.symm
      obtain rfl : fn = Tryd.f4 := (Option.some.inj (Tryd.func4.symm.trans hfn)).symm
      exact ⟨by kernel_rfl, fun j t ht => by
        rw [Tryd.params4] at ht
        have hm : t ∈ [24] := by simpa using Array.mem_of_getElem? ht
        have hall : ([24].all fun u => !Tryd.prog.wantsStandIn u) = true := by kernel_rfl
        exact (show Tryd.prog.wantsStandIn t = false by simpa using List.all_eq_true.1 hall t hm)⟩)
    (by kernel_rfl)
#print axioms proved
end Go.Proofs.YtpmilkemimlmcaaDoor.fnIntegers


/- The contract of the reference's ParseInt. -/
import Derived.Test.YtpmilkemimlmcaaCParse
import Derived.Test.YtpmilkemimlmcaaCFmt
import Derived.Test.YtpmilkemimlmcaaCIn
namespace Go.Proofs.Ytpmilkemimlmcaa
open Go.RowKit
open Go.Lib (itoa decDigits)
set_option linter.unusedVariables false

theorem itoa_nat (m : Nat) : itoa (m : Int) = decDigits m := Go.Lib.itoa_nonneg m
theorem ba_eq (s : ByteArray) : (⟨s.data.toList.toArray⟩ : ByteArray) = s := by simp
theorem toList_ne {s t : ByteArray} (h : s.data.toList ≠ t.data.toList) : ¬ s.toList = t.toList := fun e => h (by rw [ByteArray.toList_eq, ByteArray.toList_eq] at e; rw [Go.WideShapes.bytes_inj e])
/-- What the reference's ParseInt leaves. -/
def ParsedB (s : ByteArray) (w : World) (e : Ending) (w' : World) : Prop := e = .returned (.tuple #[.int .i64 ((pVal s.data.toList : Nat) : Int), .bool (pOk s.data.toList)]) ∧ Below w.heap.size w w'
theorem ParsedB.no {s : ByteArray} {w w' : World} (h : pOk s.data.toList = false) (hb : Below w.heap.size w w') : ParsedB s w (.returned (.tuple #[.int .i64 0, .bool false])) w' := ⟨by rw [h, pVal_no h]; rfl, hb⟩

set_option maxHeartbeats 1600000 in
theorem spec_ParseInt (s : ByteArray) (w : World) (hs : s.size ≤ 9223372036854775807) :
    Calls Try.prog 4 #[.string s] w (ParsedB s w) := by
  have hl := sz_len s
  rcases Classical.em (¬ (1 ≤ s.size ∧ s.size ≤ 13)) with hn | hn
  · have hno := pOk_len (l := s.data.toList) (by omega)
    have HP := Lib.hid (ParsedB.no (w := w) hno (Below.refl _ _))
    have HN := Lib.hid (show ¬ ((1 : Int) ≤ (s.size : Int) ∧ (s.size : Int) ≤ 13) by omega)
    clear hl hno hn
    go_enter Try.func4, Try.ntmps4
    go_wp2_with fail
    refine (spec_in_no _ _ _ _ HN.out).mono ?_
    rintro e w1 ⟨rfl, rfl⟩
    go_wp2_with fail
    go_ret2
    exact HP.out
  obtain ⟨hpos, h13⟩ := Classical.not_not.1 hn
  clear hn
  have HL := Lib.hid hl
  have HN := Lib.hid (show ((1 : Int) ≤ (s.size : Int) ∧ (s.size : Int) ≤ 13) by omega)
  clear hl hs
  go_enter Try.func4, Try.ntmps4
  go_wp2_with fail
  refine (spec_in_yes _ _ _ _ HN.out).mono ?_
  rintro e w1 ⟨rfl, rfl⟩
  go_wp2_with fail
  go_loop [4, 5] (fun n i => ∃ k : Nat, k ≤ s.size ∧ i = .int .i64 k ∧ n = .int .i64 ((dval 0 (s.data.toList.take k) : Nat) : Int) ∧ Hid (allD (s.data.toList.take k) = true)) (fun _ i => s.size - (intOf i).toNat)
  case atStart => exact ⟨0, Nat.zero_le _, rfl, rfl, Lib.hid rfl⟩
  case round =>
    obtain ⟨k, hk, rfl, rfl, HA⟩ := hrel
    have hb := dval_lt (s.data.toList.take k) 0 HA.out
    have hp : 10 ^ (s.data.toList.take k).length ≤ 10 ^ 13 := Nat.pow_le_pow_right (by omega) (by simp; have := HL.out; omega)
    have hb2 : dval 0 (s.data.toList.take k) < 10000000000000 := by omega
    clear hb hp
    by_cases hlt : k < s.size
    · by_cases hd : 48 ≤ s[k].toNat ∧ s[k].toNat ≤ 57
      · have e1 := take_snocS s k hlt
        have HA2 : Hid (allD (s.data.toList.take (k + 1)) = true) := Lib.hid (by rw [e1]; exact all_snoc HA.out hd.1 hd.2)
        have HV : Hid (dval 0 (s.data.toList.take (k + 1)) = 10 * dval 0 (s.data.toList.take k) + (s[k].toNat - 48)) := Lib.hid (by rw [e1, dval_snoc])
        have HI := Lib.hid (show ((48 : Int) ≤ (s[k].toNat : Int) ∧ (s[k].toNat : Int) ≤ 57) by omega)
        obtain ⟨hd1, hd2⟩ := hd
        obtain ⟨m, hm⟩ : ∃ m, m = dval 0 (s.data.toList.take k) := ⟨_, rfl⟩
        rw [← hm] at hb2 HV ⊢
        clear e1 hm
        go_wp2_with fail
        refine (spec_in_yes _ _ _ _ HI.out).mono ?_
        rintro e w1 ⟨rfl, rfl⟩
        go_wp2_with fail
        go_round
        case rel => exact ⟨k + 1, by omega, by go_num, by rw [HV.out]; go_num, HA2⟩
        case measure => simp [intOf]; omega
      · have HP := Lib.hid (ParsedB.no (w := w) (pOk_bad s k hlt hd) (Below.refl _ _))
        have HI := Lib.hid (show ¬ ((48 : Int) ≤ (s[k].toNat : Int) ∧ (s[k].toNat : Int) ≤ 57) by omega)
        have i255 : s[k].toNat < 256 := s[k].toNat_lt
        clear hd
        go_wp2_with fail
        refine (spec_in_no _ _ _ _ HI.out).mono ?_
        rintro e w1 ⟨rfl, rfl⟩
        go_wp2_with fail
        go_ret2
        exact HP.out
    · have hke : s.data.toList.take k = s.data.toList := List.take_of_length_le (by rw [HL.out]; omega)
      rw [hke] at HA hb2 ⊢
      by_cases hbig : 1000000000000 < dval 0 s.data.toList
      · have HP := Lib.hid (ParsedB.no (w := w) (pOk_big hbig) (Below.refl _ _))
        clear hke
        go_wp2_with fail
        go_ret2
        exact HP.out
      · have hlen : 1 ≤ s.data.toList.length ∧ s.data.toList.length ≤ 13 := ⟨by rw [HL.out]; exact hpos, by rw [HL.out]; exact h13⟩
        have hf := spec_FormatInt ((dval 0 s.data.toList : Nat) : Int) w (by omega)
        rw [itoa_nat] at hf
        have HI := Lib.hid (dec_iff HA.out)
        by_cases hpl : plainB s.data.toList = true
        · obtain ⟨y1, y2⟩ := pOk_yes hlen HA.out hpl (by omega)
          rw [(HI.out).2 hpl, ba_eq] at hf
          have HF := Lib.hid hf
          have HP : Hid (∀ w', Below w.heap.size w w' → ParsedB s w (.returned (.tuple #[.int .i64 ((dval 0 s.data.toList : Nat) : Int), .bool true])) w') := Lib.hid fun w' hb => ⟨by rw [y1, y2], hb⟩
          clear hke y1 y2 hf hpl hlen HI
          obtain ⟨v, hv⟩ : ∃ v, v = dval 0 s.data.toList := ⟨_, rfl⟩
          rw [← hv] at hbig hb2 HF HP ⊢
          clear hv HA
          go_wp2_with fail
          refine (HF.out).mono ?_
          rintro e w2 ⟨rfl, b2⟩
          go_wp2_with fail
          go_ret2
          exact HP.out _ b2
        · have HP := Lib.hid (fun w' => ParsedB.no (w := w) (w' := w') (pOk_lead (l := s.data.toList) (by simpa using hpl)))
          obtain ⟨t, ht⟩ : ∃ t : ByteArray, t = ⟨(decDigits (dval 0 s.data.toList)).toArray⟩ := ⟨_, rfl⟩
          have hne : (t.toList == s.toList) = false := beq_eq_false_iff_ne.2 (toList_ne (by rw [ht]; intro h; exact hpl ((HI.out).1 h)))
          rw [← ht] at hf
          have HF := Lib.hid hf
          clear hke hf hpl hlen HI ht
          obtain ⟨v, hv⟩ : ∃ v, v = dval 0 s.data.toList := ⟨_, rfl⟩
          rw [← hv] at hbig hb2 HF ⊢
          clear hv HA
          go_wp2_with fail
          refine (HF.out).mono ?_
          rintro e w2 ⟨rfl, b2⟩
          go_wp2_with fail
          go_ret2
          exact HP.out _ b2
end Go.Proofs.Ytpmilkemimlmcaa

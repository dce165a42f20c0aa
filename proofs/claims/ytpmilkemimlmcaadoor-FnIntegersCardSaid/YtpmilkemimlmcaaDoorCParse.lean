/- The contract of the program's ParseInt. -/
import Derived.Test.YtpmilkemimlmcaaDoorProg
import Derived.Test.YtpmilkemimlmcaaDoorBase
import Derived.Test.YtpmilkemimlmcaaDoorCDec
namespace Go.Proofs.YtpmilkemimlmcaaDoor
open Go.RowKit
set_option linter.unusedVariables false

theorem sz_len (s : ByteArray) : s.data.toList.length = s.size := by rw [Array.length_toList]; rfl
theorem take_snocS (s : ByteArray) (k : Nat) (h : k < s.size) : s.data.toList.take (k + 1) = s.data.toList.take k ++ [s[k]] := by
  rw [List.take_succ_eq_append_getElem (by simpa using h)]; rfl
theorem all_take {l : List UInt8} (k : Nat) (h : allD l = true) : allD (l.take k) = true := by
  unfold allD at *
  exact List.all_eq_true.2 fun x hx => List.all_eq_true.1 h x (List.mem_of_mem_take hx)
theorem all_snoc {l : List UInt8} {c : UInt8} (h : allD l = true) (h0 : 48 ≤ c.toNat) (h1 : c.toNat ≤ 57) : allD (l ++ [c]) = true := by
  unfold allD at *
  rw [List.all_append, h, List.all_cons, show digB c = true from decide_eq_true ⟨h0, h1⟩]; rfl
theorem pOk_bad (s : ByteArray) (k : Nat) (h : k < s.size) (hn : ¬ (48 ≤ s[k].toNat ∧ s[k].toNat ≤ 57)) : pOk s.data.toList = false := by
  have h1 : allD s.data.toList = false := by
    unfold allD
    rw [List.all_eq_false]
    exact ⟨s[k], by rw [ByteArray.getElem_eq_getElem_data]; simp, by unfold digB; simp; omega⟩
  unfold pOk
  rw [h1]; simp
theorem pOk_len {l : List UInt8} (h : ¬ (1 ≤ l.length ∧ l.length ≤ 13)) : pOk l = false := by
  unfold pOk; rw [decide_eq_false h]; rfl
theorem pOk_lead {l : List UInt8} (h : plainB l = false) : pOk l = false := by
  unfold pOk; rw [h]; simp
theorem pOk_big {l : List UInt8} (h : 1000000000000 < dval 0 l) : pOk l = false := by
  unfold pOk; rw [decide_eq_false (show ¬ dval 0 l ≤ 1000000000000 by omega)]; simp
theorem pVal_no {l : List UInt8} (h : pOk l = false) : pVal l = 0 := by unfold pVal; rw [h]; rfl
theorem pOk_yes {l : List UInt8} (h1 : 1 ≤ l.length ∧ l.length ≤ 13) (h2 : allD l = true) (h3 : plainB l = true) (h4 : dval 0 l ≤ 1000000000000) : pOk l = true ∧ pVal l = dval 0 l := by
  have : pOk l = true := by unfold pOk; rw [decide_eq_true h1, h2, h3, decide_eq_true h4]; rfl
  exact ⟨this, by unfold pVal; rw [if_pos this]⟩
theorem plain_at {s : ByteArray} (h : 0 < s.size) : plainB s.data.toList = (decide (s[0].toNat ≠ 48) || decide (s.size = 1)) := by
  have hl := sz_len s
  cases hd : s.data.toList with
  | nil => rw [hd] at hl; simp at hl; omega
  | cons c t =>
    have e0 : s[0] = c := by
      rw [ByteArray.getElem_eq_getElem_data, ← Array.getElem_toList]
      simp [hd]
    rw [hd] at hl
    rw [e0]
    unfold plainB
    have e1 : decide (c ≠ 48) = decide (c.toNat ≠ 48) := by
      apply decide_eq_decide.2
      constructor
      · intro hne he; exact hne (UInt8.toNat_inj.1 (by rw [he]; rfl))
      · intro hne he; exact hne (by rw [he]; rfl)
    have e2 : t.isEmpty = decide (s.size = 1) := by
      cases t with
      | nil => simp at hl; simp [← hl]
      | cons x t => simp at hl; simp; omega
    show (decide (c ≠ 48) || t.isEmpty) = _
    rw [e1, e2]
/-- What ParseInt leaves. -/
def Parsed (s : ByteArray) (w : World) (e : Ending) (w' : World) : Prop := e = .returned (.tuple #[.int .i64 ((pVal s.data.toList : Nat) : Int), .bool (pOk s.data.toList)]) ∧ w = w'
theorem Parsed.no {s : ByteArray} {w : World} (h : pOk s.data.toList = false) : Parsed s w (.returned (.tuple #[.int .i64 0, .bool false])) w := ⟨by rw [h, pVal_no h]; rfl, rfl⟩

set_option maxHeartbeats 800000 in
theorem impl_ParseInt (s : ByteArray) (w : World) (hs : s.size ≤ 9223372036854775807) :
    Calls Tryd.prog 9 #[.string s] w (Parsed s w) := by
  have hl := sz_len s
  by_cases h0 : s.size = 0
  · have hno := pOk_len (l := s.data.toList) (by omega)
    have HP := Lib.hid (Parsed.no (w := w) hno)
    have t0 : ((s.size : Int) == 0) = true := by rw [h0]; rfl
    clear h0 hl hno
    go_enter Tryd.func9, Tryd.ntmps9
    go_wp2
    go_ret2
    exact HP.out
  have t0 : ((s.size : Int) == 0) = false := beq_eq_false_iff_ne.2 (by omega)
  by_cases h13 : 13 < s.size
  · have hno := pOk_len (l := s.data.toList) (by omega)
    have HP := Lib.hid (Parsed.no (w := w) hno)
    clear h0 hl hno
    go_enter Tryd.func9, Tryd.ntmps9
    go_wp2
    go_ret2
    exact HP.out
  have hpos : 0 < s.size := by omega
  have h13' : s.size ≤ 13 := by omega
  have hpl := plain_at hpos
  clear h0 h13
  by_cases hlead : s[0].toNat = 48 ∧ 1 < s.size
  · obtain ⟨e1, e2⟩ := hlead
    have hno := pOk_lead (l := s.data.toList) (by rw [hpl, decide_eq_false (show ¬ s[0].toNat ≠ 48 by omega), decide_eq_false (show ¬ s.size = 1 by omega)]; rfl)
    have HP := Lib.hid (Parsed.no (w := w) hno)
    have t1 : ((s[0].toNat : Int) == 48) = true := by rw [e1]; rfl
    clear hl hpl hno e1
    go_enter Tryd.func9, Tryd.ntmps9
    go_wp2
    go_ret2
    exact HP.out
  have hplain : plainB s.data.toList = true := by
    rw [hpl]
    by_cases h1 : s.size = 1
    · rw [decide_eq_true h1, Bool.or_true]
    · rw [decide_eq_true (show s[0].toNat ≠ 48 by omega)]; rfl
  have HPL := Lib.hid hplain
  have HL := Lib.hid hl
  have hcase : ((s[0].toNat : Int) == 48) = false ∨ (((s[0].toNat : Int) == 48) = true ∧ s.size ≤ 1) := by
    by_cases h48 : s[0].toNat = 48
    · exact .inr ⟨by rw [h48]; rfl, by omega⟩
    · exact .inl (beq_eq_false_iff_ne.2 (by omega))
  clear hl hpl hplain hlead
  rcases hcase with t1 | ⟨t1, t2⟩
  all_goals
    go_enter Tryd.func9, Tryd.ntmps9
    go_wp2
    go_loop [4, 5] (fun n i => ∃ k : Nat, k ≤ s.size ∧ i = .int .i64 k ∧ n = .int .i64 ((dval 0 (s.data.toList.take k) : Nat) : Int) ∧ Hid (allD (s.data.toList.take k) = true)) (fun _ i => s.size - (intOf i).toNat)
    case atStart => exact ⟨0, Nat.zero_le _, rfl, rfl, Lib.hid rfl⟩
    case round =>
      obtain ⟨k, hk, rfl, rfl, HA⟩ := hrel
      have hb := dval_lt (s.data.toList.take k) 0 HA.out
      have hp : 10 ^ (s.data.toList.take k).length ≤ 10 ^ 13 := Nat.pow_le_pow_right (by omega) (by simp; have := HL.out; omega)
      have hb2 : dval 0 (s.data.toList.take k) < 10000000000000 := by omega
      clear hb hp
      by_cases hlt : k < s.size
      · by_cases hd : 48 ≤ s[k].toNat ∧ s[k].toNat ≤ 57
        · have e1 := take_snocS s k hlt
          have HA2 : Hid (allD (s.data.toList.take (k + 1)) = true) := Lib.hid (by rw [e1]; exact all_snoc HA.out hd.1 hd.2)
          have HV : Hid (dval 0 (s.data.toList.take (k + 1)) = 10 * dval 0 (s.data.toList.take k) + (s[k].toNat - 48)) := Lib.hid (by rw [e1, dval_snoc])
          have i1 : (48 : Int) ≤ (s[k].toNat : Int) := by omega
          have i2 : (s[k].toNat : Int) ≤ 57 := by omega
          obtain ⟨m, hm⟩ : ∃ m, m = dval 0 (s.data.toList.take k) := ⟨_, rfl⟩
          rw [← hm] at hb2 HV ⊢
          clear e1 hd hm
          go_wp2
          go_round
          case rel => exact ⟨k + 1, by omega, by go_num, by rw [HV.out]; go_num, HA2⟩
          case measure => simp [intOf]; omega
        · have HP := Lib.hid (Parsed.no (w := w) (pOk_bad s k hlt hd))
          by_cases hd1 : s[k].toNat < 48
          · have i1 : (s[k].toNat : Int) < 48 := by omega
            clear hd hd1
            go_wp2
            go_ret2
            exact HP.out
          · have i1 : (48 : Int) ≤ (s[k].toNat : Int) := by omega
            have i2 : 57 < (s[k].toNat : Int) := by omega
            clear hd hd1
            go_wp2
            go_ret2
            exact HP.out
      · have hke : s.data.toList.take k = s.data.toList := List.take_of_length_le (by rw [HL.out]; omega)
        rw [hke] at HA hb2 ⊢
        by_cases hbig : 1000000000000 < dval 0 s.data.toList
        · have HP := Lib.hid (Parsed.no (w := w) (pOk_big hbig))
          clear hke
          go_wp2
          go_ret2
          exact HP.out
        · obtain ⟨y1, y2⟩ := pOk_yes ⟨by rw [HL.out]; exact hpos, by rw [HL.out]; exact h13'⟩ HA.out HPL.out (by omega)
          have HP : Hid (Parsed s w (.returned (.tuple #[.int .i64 ((dval 0 s.data.toList : Nat) : Int), .bool true])) w) := Lib.hid ⟨by rw [y1, y2], rfl⟩
          clear hke y1 y2
          go_wp2
          go_ret2
          exact HP.out
end Go.Proofs.YtpmilkemimlmcaaDoor

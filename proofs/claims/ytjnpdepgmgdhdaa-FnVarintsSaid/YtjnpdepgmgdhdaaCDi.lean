/- Contracts of DecodeInts (program and reference). -/
import Derived.Test.YtjnpdepgmgdhdaaCRb
namespace Go.Proofs.Ytjnpdepgmgdhdaa
open Go.RowKit
set_option linter.unusedVariables false

/-- What is read when c numbers are still wanted. -/
def diL (xs : List Int) : Nat → Int → List Int → List Int × Int × Bool
  | 0, o, acc => (acc, o, true)
  | c + 1, o, acc => if (ru xs o).2.2 = true then diL xs c (ru xs o).2.1 (acc ++ [(ru xs o).1]) else ([], 0, false)
def di (xs : List Int) (o c : Int) : List Int × Int × Bool := if (0 ≤ c ∧ c ≤ 100) ∧ 0 ≤ o ∧ o ≤ xs.length then diL xs c.toNat o [] else ([], 0, false)
theorem diL_len (xs : List Int) : ∀ c o acc, (diL xs c o acc).1.length ≤ acc.length + c
  | 0, _, _ => by simp [diL]
  | c + 1, o, acc => by
    rw [diL]; split
    · have := diL_len xs c (ru xs o).2.1 (acc ++ [(ru xs o).1]); simp at this; omega
    · simp
theorem di_len (xs : List Int) (o c : Int) : (di xs o c).1.length ≤ 100 := by
  unfold di; split
  · have := diL_len xs c.toNat o []; simp at this; omega
  · simp
theorem diL_no {xs : List Int} {c : Nat} {o : Int} {acc : List Int} (h : ru xs o = (0, 0, false)) : diL xs (c + 1) o acc = ([], 0, false) := by rw [diL, h]; simp
theorem diL_yes {xs : List Int} {c n x : Nat} {o : Int} {acc : List Int} (h : ru xs o = ((n : Int), (x : Int), true)) : diL xs (c + 1) o acc = diL xs c (x : Int) (acc ++ [(n : Int)]) := by rw [diL, h]; simp

set_option maxHeartbeats 800000 in
set_option maxRecDepth 100000 in
theorem spec_DecodeInts (u : Value) (xs : List Int) (o c : Int) (w : World) (hu : Rd .u8 w u xs) (hob : -9223372036854775808 ≤ o ∧ o ≤ 9223372036854775807) (hcb : -9223372036854775808 ≤ c ∧ c ≤ 9223372036854775807) (hn : xs.length ≤ 1073741824) :
    Calls Try.prog 28 #[u, .int .i64 o, .int .i64 c] w (FreshT .i64 3 (di xs o c).1 [.int .i64 (di xs o c).2.1, .bool (di xs o c).2.2] w) := by
  have Q := Lib.hid hu
  obtain ⟨ad, cp, rfl⟩ := hu.shape
  clear hu
  by_cases h : (0 ≤ c ∧ c ≤ 100) ∧ 0 ≤ o ∧ o ≤ xs.length
  · obtain ⟨c, rfl⟩ := Int.eq_ofNat_of_zero_le h.1.1
    obtain ⟨o, rfl⟩ := Int.eq_ofNat_of_zero_le h.2.1
    have HD : Hid (di xs (o : Int) (c : Int) = diL xs c (o : Int) []) := Lib.hid (if_pos h)
    obtain ⟨R, hR⟩ : ∃ R, R = di xs (o : Int) (c : Int) := ⟨_, rfl⟩
    rw [← hR] at HD ⊢
    clear hR
    have hc1 : (c : Int) ≤ 100 := h.1.2
    have ho1 : (o : Int) ≤ (xs.length : Int) := h.2.2
    clear h hob hcb
    go_enter Try.func28, Try.ntmps28
    go_wp2_with (go_at_call 38; refine (spec_in_yes _ _ _ _ (by omega)).mono ?_; rintro e w' ⟨rfl, rfl⟩)
    go_loopw [1, 9, 10] (fun p v i wr => ∃ (k at_ : Nat) (acc : List Int), k ≤ c ∧ i = .int .i64 k ∧ p = .int .i64 at_ ∧ at_ ≤ xs.length ∧ Hid (R = diL xs (c - k) (at_ : Int) acc) ∧ Hid (acc.length = k) ∧ Own .i64 3 wr w.heap.size wr.heap.size v acc ∧ Below w.heap.size w wr) (fun _ _ i _ => c - (intOf i).toNat)
    case atStart => exact ⟨0, o, [], Nat.zero_le _, rfl, rfl, by omega, HD, Lib.hid rfl, (own_lit0 w (Nat.le_refl _)).top, (Below.refl _ _).alloc (Nat.le_refl _) _⟩
    case round =>
      obtain ⟨k, o1, acc, hk, rfl, rfl, ho, HR, HA, hr, hbw⟩ := hrel
      have ru1 := Q.out.keep hbw
      have hl4 : acc.length ≤ 100 := by have := HA.out; omega
      by_cases hlt : k < c
      · have hck : c - k = (c - (k + 1)) + 1 := by omega
        have HR2 : Hid (R = diL xs ((c - (k + 1)) + 1) (o1 : Int) acc) := Lib.hid (by rw [← hck]; exact HR.out)
        clear hck HR
        have cr := fun W h => spec_ReadUvarint (.slice ad xs.length cp) xs (o1 : Int) W h (by omega) hn
        rcases ru_case xs (o1 : Int) with hq | ⟨n, x, hq, q1, q2, q3, q4⟩
        · have HF := Lib.hid (HR2.out.trans (diL_no hq))
          rw [hq] at cr
          have CR := Lib.hid cr
          clear cr hq HR2
          go_wp2_with fail
          refine (CR.out _ ru1).mono ?_
          rintro e w2 ⟨rfl, b2⟩
          have b2' := below_next hbw b2
          have s2 := b2'.size
          go_wp2_with fail
          go_ret3
          exact ⟨_, by rw [HF.out]; rfl, by rw [HF.out]; exact (own_lit0 w2 s2).top, b2'.alloc s2 _⟩
        · have HF := Lib.hid (HR2.out.trans (diL_yes hq))
          rw [hq] at cr
          have CR := Lib.hid cr
          have q1i : (n : Int) ≤ 1000000000000 := by omega
          clear cr hq HR2 q1
          go_wp2_with fail
          refine (CR.out _ ru1).mono ?_
          rintro e w2 ⟨rfl, b2⟩
          have b2' := below_next hbw b2
          have s2 := b2'.size
          have o2 := (hr.keep b2 (Nat.le_refl _)).top
          clear hr hbw b2 ru1
          go_wp2_with (at_builtin; refine wpList_app _ rfl (.tmp 41) (.tmp 43) 34 rfl w.heap.size 3 .i64 8 Try.underlying34 info64 (by omega) _ _ acc [(n : Int)] rfl rfl (o2.alloc _) (rd_lit1 _ _ (by go_wf)) (by simp; omega) (by simp; omega) ?_)
          intro v3 w3 o3 b3
          have b3' := (b2'.alloc s2 _).trans b3
          go_wp2
          go_roundw
          case rel => exact ⟨k + 1, x, acc ++ [(n : Int)], by omega, by go_num, rfl, q2, HF, Lib.hid (by have := HA.out; simp; omega), o3, b3'⟩
          case measure => simp [intOf]; omega
      · have hke : k = c := by omega
        subst hke
        have HF : Hid (R = (acc, (o1 : Int), true)) := Lib.hid (by have := HR.out; rw [Nat.sub_self] at this; exact this)
        clear HR
        go_wp2
        go_ret3
        exact ⟨_, by rw [HF.out]; rfl, by rw [HF.out]; exact hr, hbw⟩
  · rw [show di xs o c = ([], 0, false) from if_neg h]
    rcases (show ¬ (0 ≤ c ∧ c ≤ 100) ∨ ((0 ≤ c ∧ c ≤ 100) ∧ ¬ (0 ≤ o ∧ o ≤ (xs.length : Int))) by omega) with hc1 | ⟨hc1, hc2⟩
    · have H1 := Lib.hid hc1
      clear h hc1
      go_enter Try.func28, Try.ntmps28
      go_wp2_with ((go_at_call 38; refine (spec_in_no _ _ _ _ H1.out).mono ?_; rintro e w' ⟨rfl, rfl⟩))
      go_ret3
      exact ⟨_, rfl, (own_lit0 w (Nat.le_refl _)).top, (Below.refl _ _).alloc (Nat.le_refl _) _⟩
    · have H1 := Lib.hid hc1
      have H2 := Lib.hid hc2
      clear h hc1 hc2
      go_enter Try.func28, Try.ntmps28
      go_wp2_with fail
      refine (spec_in_yes _ _ _ _ H1.out).mono ?_
      rintro e w' ⟨rfl, rfl⟩
      go_wp2_with fail
      refine (spec_in_no _ _ _ _ H2.out).mono ?_
      rintro e w' ⟨rfl, rfl⟩
      go_wp2_with fail
      go_ret3
      exact ⟨_, rfl, (own_lit0 w (Nat.le_refl _)).top, (Below.refl _ _).alloc (Nat.le_refl _) _⟩
set_option maxHeartbeats 800000 in
set_option maxRecDepth 100000 in
theorem impl_DecodeInts (u : Value) (xs : List Int) (o c : Int) (w : World) (hu : Rd .u8 w u xs) (hob : -9223372036854775808 ≤ o ∧ o ≤ 9223372036854775807) (hcb : -9223372036854775808 ≤ c ∧ c ≤ 9223372036854775807) (hn : xs.length ≤ 1073741824) :
    Calls Try.prog 29 #[u, .int .i64 o, .int .i64 c] w (FreshT .i64 3 (di xs o c).1 [.int .i64 (di xs o c).2.1, .bool (di xs o c).2.2] w) := by
  have Q := Lib.hid hu
  obtain ⟨ad, cp, rfl⟩ := hu.shape
  clear hu
  by_cases h : (0 ≤ c ∧ c ≤ 100) ∧ 0 ≤ o ∧ o ≤ xs.length
  · obtain ⟨c, rfl⟩ := Int.eq_ofNat_of_zero_le h.1.1
    obtain ⟨o, rfl⟩ := Int.eq_ofNat_of_zero_le h.2.1
    have HD : Hid (di xs (o : Int) (c : Int) = diL xs c (o : Int) []) := Lib.hid (if_pos h)
    obtain ⟨R, hR⟩ : ∃ R, R = di xs (o : Int) (c : Int) := ⟨_, rfl⟩
    rw [← hR] at HD ⊢
    clear hR
    have hc1 : (c : Int) ≤ 100 := h.1.2
    have ho1 : (o : Int) ≤ (xs.length : Int) := h.2.2
    clear h hob hcb
    go_enter Try.func29, Try.ntmps29
    go_wp2_with (go_at_call 40; refine (impl_in_yes _ _ _ _ (by omega)).mono ?_; rintro e w' ⟨rfl, rfl⟩)
    go_loopw [9, 10, 11] (fun v p i wr => ∃ (k at_ : Nat) (acc : List Int), k ≤ c ∧ i = .int .i64 k ∧ p = .int .i64 at_ ∧ at_ ≤ xs.length ∧ Hid (R = diL xs (c - k) (at_ : Int) acc) ∧ Hid (acc.length = k) ∧ Own .i64 3 wr w.heap.size wr.heap.size v acc ∧ Below w.heap.size w wr) (fun _ _ i _ => c - (intOf i).toNat)
    case atStart => exact ⟨0, o, [], Nat.zero_le _, rfl, rfl, by omega, HD, Lib.hid rfl, (own_lit0 w (Nat.le_refl _)).top, (Below.refl _ _).alloc (Nat.le_refl _) _⟩
    case round =>
      obtain ⟨k, o1, acc, hk, rfl, rfl, ho, HR, HA, hr, hbw⟩ := hrel
      have ru1 := Q.out.keep hbw
      have hl4 : acc.length ≤ 100 := by have := HA.out; omega
      by_cases hlt : k < c
      · have hck : c - k = (c - (k + 1)) + 1 := by omega
        have HR2 : Hid (R = diL xs ((c - (k + 1)) + 1) (o1 : Int) acc) := Lib.hid (by rw [← hck]; exact HR.out)
        clear hck HR
        have cr := fun W h => impl_ReadUvarint (.slice ad xs.length cp) xs (o1 : Int) W h (by omega) hn
        rcases ru_case xs (o1 : Int) with hq | ⟨n, x, hq, q1, q2, q3, q4⟩
        · have HF := Lib.hid (HR2.out.trans (diL_no hq))
          rw [hq] at cr
          have CR := Lib.hid cr
          clear cr hq HR2
          go_wp2_with fail
          refine (CR.out _ ru1).mono ?_
          rintro e w2 ⟨rfl, b2⟩
          have b2' := below_next hbw b2
          have s2 := b2'.size
          go_wp2_with fail
          go_ret3
          exact ⟨_, by rw [HF.out]; rfl, by rw [HF.out]; exact (own_lit0 w2 s2).top, b2'.alloc s2 _⟩
        · have HF := Lib.hid (HR2.out.trans (diL_yes hq))
          rw [hq] at cr
          have CR := Lib.hid cr
          have q1i : (n : Int) ≤ 1000000000000 := by omega
          clear cr hq HR2 q1
          go_wp2_with fail
          refine (CR.out _ ru1).mono ?_
          rintro e w2 ⟨rfl, b2⟩
          have b2' := below_next hbw b2
          have s2 := b2'.size
          have o2 := (hr.keep b2 (Nat.le_refl _)).top
          clear hr hbw b2 ru1
          go_wp2_with (at_builtin; refine wpList_app _ rfl (.tmp 43) (.tmp 45) 34 rfl w.heap.size 3 .i64 8 Try.underlying34 info64 (by omega) _ _ acc [(n : Int)] rfl rfl (o2.alloc _) (rd_lit1 _ _ (by go_wf)) (by simp; omega) (by simp; omega) ?_)
          intro v3 w3 o3 b3
          have b3' := (b2'.alloc s2 _).trans b3
          go_wp2
          go_roundw
          case rel => exact ⟨k + 1, x, acc ++ [(n : Int)], by omega, by go_num, rfl, q2, HF, Lib.hid (by have := HA.out; simp; omega), o3, b3'⟩
          case measure => simp [intOf]; omega
      · have hke : k = c := by omega
        subst hke
        have HF : Hid (R = (acc, (o1 : Int), true)) := Lib.hid (by have := HR.out; rw [Nat.sub_self] at this; exact this)
        clear HR
        go_wp2
        go_ret3
        exact ⟨_, by rw [HF.out]; rfl, by rw [HF.out]; exact hr, hbw⟩
  · rw [show di xs o c = ([], 0, false) from if_neg h]
    rcases (show ¬ (0 ≤ c ∧ c ≤ 100) ∨ ((0 ≤ c ∧ c ≤ 100) ∧ ¬ (0 ≤ o ∧ o ≤ (xs.length : Int))) by omega) with hc1 | ⟨hc1, hc2⟩
    · have H1 := Lib.hid hc1
      clear h hc1
      go_enter Try.func29, Try.ntmps29
      go_wp2_with ((go_at_call 40; refine (impl_in_no _ _ _ _ H1.out).mono ?_; rintro e w' ⟨rfl, rfl⟩))
      go_ret3
      exact ⟨_, rfl, (own_lit0 w (Nat.le_refl _)).top, (Below.refl _ _).alloc (Nat.le_refl _) _⟩
    · have H1 := Lib.hid hc1
      have H2 := Lib.hid hc2
      clear h hc1 hc2
      go_enter Try.func29, Try.ntmps29
      go_wp2_with fail
      refine (impl_in_yes _ _ _ _ H1.out).mono ?_
      rintro e w' ⟨rfl, rfl⟩
      go_wp2_with fail
      refine (impl_in_no _ _ _ _ H2.out).mono ?_
      rintro e w' ⟨rfl, rfl⟩
      go_wp2_with fail
      go_ret3
      exact ⟨_, rfl, (own_lit0 w (Nat.le_refl _)).top, (Below.refl _ _).alloc (Nat.le_refl _) _⟩
end Go.Proofs.Ytjnpdepgmgdhdaa

/- Contracts of AppendUvarint (program and reference). -/
import Derived.Test.YtjnpdepgmgdhdaaCRu
import Derived.Test.YtjnpdepgmgdhdaaCApp
import Derived.Test.YtjnpdepgmgdhdaaCInfo
import Derived.Test.YtjnpdepgmgdhdaaCLit
import Derived.Test.YtjnpdepgmgdhdaaCCp
import Derived.Test.YtjnpdepgmgdhdaaCIn
namespace Go.Proofs.Ytjnpdepgmgdhdaa
open Go.RowKit
set_option linter.unusedVariables false

/-- The varint of a number. -/
def uvF : Nat → Nat → List Int
  | 0, n => [(n : Int)]
  | f + 1, n => if n < 128 then [(n : Int)] else ((n % 128 + 128 : Nat) : Int) :: uvF f (n / 128)
def uv (n : Nat) : List Int := uvF 5 n
def auv (xs : List Int) (n : Int) : List Int := if 0 ≤ n ∧ n ≤ 1000000000000 then xs ++ uv n.toNat else xs
theorem uvF_len : ∀ f n, (uvF f n).length ≤ f + 1
  | 0, _ => by simp [uvF]
  | f + 1, n => by
    rw [uvF]; split
    · simp
    · have := uvF_len f (n / 128); simp; omega
theorem auv_len (xs : List Int) (n : Int) : (auv xs n).length ≤ xs.length + 6 := by
  unfold auv; split
  · have := uvF_len 5 n.toNat; simp [uv]; omega
  · omega
theorem uvF_small {f n : Nat} (h : n < 128) : uvF f n = [(n : Int)] := by
  cases f with
  | zero => rfl
  | succ f => rw [uvF, if_pos h]
theorem uvF_big {f n : Nat} (h : ¬ n < 128) : uvF (f + 1) n = ((n % 128 + 128 : Nat) : Int) :: uvF f (n / 128) := by rw [uvF, if_neg h]
theorem or128 {y : Nat} (h : y < 128) : bits .or .i64 (y : Int) 128 = ((y + 128 : Nat) : Int) := by
  have e : (128 : Int) = ((1 * 2 ^ 7 : Nat) : Int) := rfl
  rw [e, i64_or_nat _ _ (by omega) (by omega), or_add (k := 7) (by omega)]

set_option maxHeartbeats 1600000 in
set_option maxRecDepth 100000 in
theorem impl_AppendUvarint (u : Value) (xs : List Int) (n : Int) (w : World) (hu : Rd .u8 w u xs) (hn : -9223372036854775808 ≤ n ∧ n ≤ 9223372036854775807) (hx : xs.length ≤ 1073741824) :
    Calls Try.prog 16 #[u, .int .i64 n] w (Fresh .u8 5 (auv xs n) w) := by
  by_cases h : 0 ≤ n ∧ n ≤ 1000000000000
  · obtain ⟨n, rfl⟩ := Int.eq_ofNat_of_zero_le h.1
    have hni : (n : Int) ≤ 1000000000000 := h.2
    have HV : Hid (auv xs (n : Int) = xs ++ uvF 5 n) := Lib.hid (if_pos h)
    have HP : Hid (n < 128 ^ (5 + 1)) := Lib.hid (Nat.lt_of_le_of_lt (show n ≤ 1000000000000 by omega) (by decide))
    obtain ⟨V, hV⟩ : ∃ V, V = auv xs (n : Int) := ⟨_, rfl⟩
    rw [← hV] at HV ⊢
    clear hV h hn
    go_enter Try.func16, Try.ntmps16
    go_wp2_with fail
    refine (impl_copyBytes _ _ _ hu hx).mono ?_
    rintro e w1 ⟨v, rfl, o1, b1⟩
    go_wp2_with (go_at_call 40; refine (impl_in_yes _ _ _ _ (by omega)).mono ?_; rintro e w' ⟨rfl, rfl⟩)
    go_loopw [1, 5] (fun m v wr => ∃ (k f : Nat) (ys : List Int), (k : Int) ≤ 1000000000000 ∧ Hid (k < 128 ^ (f + 1)) ∧ m = .int .i64 k ∧ Hid (V = ys ++ uvF f k) ∧ ys.length + f ≤ 1073741829 ∧ Own .u8 5 wr w.heap.size wr.heap.size v ys ∧ Below w.heap.size w wr) (fun m _ _ => (intOf m).toNat)
    case atStart => exact ⟨n, 5, xs, hni, HP, rfl, HV, by omega, o1, b1⟩
    case round =>
      obtain ⟨k, f, ys, hk, HK, rfl, HY, hyl, hr, hbw⟩ := hrel
      have hsz := hbw.size
      have hl1 : ys.length ≤ 1073741829 := by omega
      have HYL := Lib.hid hyl
      clear hyl
      by_cases hlt : k < 128
      · have hlti : (k : Int) < 128 := by omega
        have HF := Lib.hid (HY.out.trans (by rw [uvF_small hlt]))
        clear HY HK
        go_wp2_with (at_builtin; refine wpList_app _ rfl (.tmp 23) (.tmp 26) 22 rfl w.heap.size 5 .u8 1 Try.underlying22 info8 (by omega) _ _ ys [(k : Int)] rfl rfl (hr.alloc _) (rd_lit1 _ _ (by go_wf)) (by simp; omega) (by simp; omega) ?_)
        intro v' w' o' b'
        have hbw' := (hbw.alloc hsz _).trans b'
        go_wp2
        go_ret
        exact ⟨_, rfl, by rw [HF.out]; exact o', hbw'⟩
      · have hge : (128 : Int) ≤ (k : Int) := by omega
        obtain ⟨f, rfl⟩ : ∃ f', f = f' + 1 := ⟨f - 1, by
          rcases f with _ | f
          · have := HK.out; simp at this; omega
          · omega⟩
        have HK2 : Hid (k / 128 < 128 ^ (f + 1)) := Lib.hid (Nat.div_lt_of_lt_mul (by have := HK.out; rw [Nat.pow_succ] at this; omega))
        obtain ⟨z, hz⟩ : ∃ z, z = k % 128 + 128 := ⟨_, rfl⟩
        have HF : Hid (V = (ys ++ [(z : Int)]) ++ uvF f (k / 128)) := Lib.hid (HY.out.trans (by rw [uvF_big hlt, hz]; simp))
        have hz2 : (z : Int) ≤ 255 := by omega
        have hz1 : (0 : Int) ≤ (z : Int) := by omega
        have ez : (k : Int) % 128 + 128 = (z : Int) := by omega
        have hkd : (k : Int) / 128 ≤ 1000000000000 := by omega
        clear HY HK hz hlt
        go_wp2_with (at_builtin; refine wpList_app _ rfl (.tmp 14) (.tmp 19) 22 rfl w.heap.size 5 .u8 1 Try.underlying22 info8 (by omega) _ _ ys [(z : Int)] rfl rfl (hr.alloc _) (rd_lit1 _ _ (by go_wf)) (by simp; omega) (by simp; omega) ?_)
        intro v' w' o' b'
        have hbw' := (hbw.alloc hsz _).trans b'
        go_wp2
        go_roundw
        case rel => exact ⟨k / 128, f, ys ++ [(z : Int)], by omega, HK2, by go_num, HF, by have := HYL.out; simp; omega, o', hbw'⟩
        case measure => simp [intOf]; omega
  · rw [show auv xs n = xs from if_neg h]
    have HH := Lib.hid h
    clear h
    go_enter Try.func16, Try.ntmps16
    go_wp2_with fail
    refine (impl_copyBytes _ _ _ hu hx).mono ?_
    rintro e w1 ⟨v, rfl, o1, b1⟩
    go_wp2_with (go_at_call 40; refine (impl_in_no _ _ _ _ HH.out).mono ?_; rintro e w' ⟨rfl, rfl⟩)
    go_ret
    exact ⟨_, rfl, o1, b1⟩
set_option maxHeartbeats 1600000 in
set_option maxRecDepth 100000 in
theorem spec_AppendUvarint (u : Value) (xs : List Int) (n : Int) (w : World) (hu : Rd .u8 w u xs) (hn : -9223372036854775808 ≤ n ∧ n ≤ 9223372036854775807) (hx : xs.length ≤ 1073741824) :
    Calls Try.prog 15 #[u, .int .i64 n] w (Fresh .u8 5 (auv xs n) w) := by
  by_cases h : 0 ≤ n ∧ n ≤ 1000000000000
  · obtain ⟨n, rfl⟩ := Int.eq_ofNat_of_zero_le h.1
    have hni : (n : Int) ≤ 1000000000000 := h.2
    have HV : Hid (auv xs (n : Int) = xs ++ uvF 5 n) := Lib.hid (if_pos h)
    have HP : Hid (n < 128 ^ (5 + 1)) := Lib.hid (Nat.lt_of_le_of_lt (show n ≤ 1000000000000 by omega) (by decide))
    obtain ⟨V, hV⟩ : ∃ V, V = auv xs (n : Int) := ⟨_, rfl⟩
    rw [← hV] at HV ⊢
    clear hV h hn
    go_enter Try.func15, Try.ntmps15
    go_wp2_with (at_builtin; refine wpList_app _ rfl (.tmp 6) (.tmp 7) 22 rfl w.heap.size 5 .u8 1 Try.underlying22 info8 (by omega) _ _ [] xs rfl rfl (own_lit0 _ (Nat.le_refl _)) (hu.keep ((Below.refl _ _).alloc (Nat.le_refl _) _)) (by simp; omega) (by simp) ?_)
    intro v w1 o1 b1'
    have b1 := ((Below.refl w.heap.size w).alloc (Nat.le_refl _) _).trans b1'
    go_wp2_with (go_at_call 38; refine (spec_in_yes _ _ _ _ (by omega)).mono ?_; rintro e w' ⟨rfl, rfl⟩)
    go_loopw [1, 5] (fun m v wr => ∃ (k f : Nat) (ys : List Int), (k : Int) ≤ 1000000000000 ∧ Hid (k < 128 ^ (f + 1)) ∧ m = .int .i64 k ∧ Hid (V = ys ++ uvF f k) ∧ ys.length + f ≤ 1073741829 ∧ Own .u8 5 wr w.heap.size wr.heap.size v ys ∧ Below w.heap.size w wr) (fun m _ _ => (intOf m).toNat)
    case atStart => exact ⟨n, 5, xs, hni, HP, rfl, HV, by omega, o1, b1⟩
    case round =>
      obtain ⟨k, f, ys, hk, HK, rfl, HY, hyl, hr, hbw⟩ := hrel
      have hsz := hbw.size
      have hl1 : ys.length ≤ 1073741829 := by omega
      have HYL := Lib.hid hyl
      clear hyl
      by_cases hlt : k < 128
      · have hlti : (k : Int) < 128 := by omega
        have HF := Lib.hid (HY.out.trans (by rw [uvF_small hlt]))
        clear HY HK
        go_wp2_with (at_builtin; refine wpList_app _ rfl (.tmp 24) (.tmp 27) 22 rfl w.heap.size 5 .u8 1 Try.underlying22 info8 (by omega) _ _ ys [(k : Int)] rfl rfl (hr.alloc _) (rd_lit1 _ _ (by go_wf)) (by simp; omega) (by simp; omega) ?_)
        intro v' w' o' b'
        have hbw' := (hbw.alloc hsz _).trans b'
        go_wp2
        go_ret
        exact ⟨_, rfl, by rw [HF.out]; exact o', hbw'⟩
      · have hge : (128 : Int) ≤ (k : Int) := by omega
        obtain ⟨f, rfl⟩ : ∃ f', f = f' + 1 := ⟨f - 1, by
          rcases f with _ | f
          · have := HK.out; simp at this; omega
          · omega⟩
        have HK2 : Hid (k / 128 < 128 ^ (f + 1)) := Lib.hid (Nat.div_lt_of_lt_mul (by have := HK.out; rw [Nat.pow_succ] at this; omega))
        obtain ⟨z, hz⟩ : ∃ z, z = k % 128 + 128 := ⟨_, rfl⟩
        have HF : Hid (V = (ys ++ [(z : Int)]) ++ uvF f (k / 128)) := Lib.hid (HY.out.trans (by rw [uvF_big hlt, hz]; simp))
        have hz2 : (z : Int) ≤ 255 := by omega
        have hz1 : (0 : Int) ≤ (z : Int) := by omega
        obtain ⟨y, hy⟩ : ∃ y, y = k % 128 := ⟨_, rfl⟩
        have ea : bits .and .i64 (k : Int) 127 = (y : Int) := by rw [and127 (by omega), hy]
        have eo : bits .or .i64 (y : Int) 128 = (z : Int) := by rw [or128 (by omega), hz, hy]
        clear hy
        have hkd : (k : Int) / 128 ≤ 1000000000000 := by omega
        clear HY HK hz hlt
        go_wp2_with (at_builtin; refine wpList_app _ rfl (.tmp 15) (.tmp 20) 22 rfl w.heap.size 5 .u8 1 Try.underlying22 info8 (by omega) _ _ ys [(z : Int)] rfl rfl (hr.alloc _) (rd_lit1 _ _ (by go_wf)) (by simp; omega) (by simp; omega) ?_)
        intro v' w' o' b'
        have hbw' := (hbw.alloc hsz _).trans b'
        go_wp2
        go_roundw
        case rel => exact ⟨k / 128, f, ys ++ [(z : Int)], by omega, HK2, by go_num, HF, by have := HYL.out; simp; omega, o', hbw'⟩
        case measure => simp [intOf]; omega
  · rw [show auv xs n = xs from if_neg h]
    have HH := Lib.hid h
    clear h
    go_enter Try.func15, Try.ntmps15
    go_wp2_with (at_builtin; refine wpList_app _ rfl (.tmp 6) (.tmp 7) 22 rfl w.heap.size 5 .u8 1 Try.underlying22 info8 (by omega) _ _ [] xs rfl rfl (own_lit0 _ (Nat.le_refl _)) (hu.keep ((Below.refl _ _).alloc (Nat.le_refl _) _)) (by simp; omega) (by simp) ?_)
    intro v w1 o1 b1'
    have b1 := ((Below.refl w.heap.size w).alloc (Nat.le_refl _) _).trans b1'
    go_wp2_with (go_at_call 38; refine (spec_in_no _ _ _ _ HH.out).mono ?_; rintro e w' ⟨rfl, rfl⟩)
    go_ret
    exact ⟨_, rfl, o1, b1⟩
end Go.Proofs.Ytjnpdepgmgdhdaa

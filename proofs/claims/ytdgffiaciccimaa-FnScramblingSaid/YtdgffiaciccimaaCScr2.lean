/- Contracts of Scramble and XorBits (program and reference). -/
import Derived.Test.YtdgffiaciccimaaCApp
import Derived.Test.YtdgffiaciccimaaCInfo
import Derived.Test.YtdgffiaciccimaaCLit
import Derived.Test.YtdgffiaciccimaaCScr
import Derived.Test.YtdgffiaciccimaaCBits
import Derived.Test.YtdgffiaciccimaaCCopy
import Derived.Test.YtdgffiaciccimaaCItb
import Derived.Deep.RegionWith
import Derived.StillTailTactics
namespace Go.Proofs.Ytdgffiaciccimaa
open Go.RowKit
set_option linter.unusedVariables false

/-- The scrambled bits, from state s on. -/
def scrL (s : Nat) : List Int → List Int
  | [] => []
  | b :: t => (((b.toNat ^^^ outS s : Nat)) : Int) :: scrL (nxtS s) t
def scrAt (s : Nat) (xs : List Int) (k : Nat) : Int := ((((xs.getD k 0).toNat ^^^ outS (scrN k s) : Nat)) : Int)
theorem scrN_nxt (s : Nat) : ∀ k, scrN k (nxtS s) = scrN (k + 1) s
  | 0 => rfl
  | k + 1 => by rw [scrN, scrN_nxt s k]; rfl
theorem scrL_len : ∀ (xs : List Int) (s : Nat), (scrL s xs).length = xs.length
  | [], _ => rfl
  | _ :: t, s => by simp [scrL, scrL_len t]
theorem scrL_getD : ∀ (xs : List Int) (s k : Nat), k < xs.length → (scrL s xs).getD k 0 = scrAt s xs k
  | [], _, _, h => by simp at h
  | b :: t, s, 0, _ => rfl
  | b :: t, s, k + 1, h => by
    have h1 := scrL_getD t (nxtS s) k (by simpa using h)
    simp only [scrL, List.getD_cons_succ, scrAt] at h1 ⊢
    rw [h1, scrN_nxt]
/-- Half of a list replaced: the first k of ys, the others of xs. -/
theorem half_set {xs ys : List Int} {k : Nat} {x : Int} (hl : ys.length = xs.length) (hk : k < xs.length) (hx : ys.getD k 0 = x) : (ys.take k ++ xs.drop k).set k x = ys.take (k + 1) ++ xs.drop (k + 1) := by
  have h1 : (ys.take k).length = k := by simp; omega
  rw [List.set_append_right _ _ (by omega), h1, Nat.sub_self, List.drop_eq_getElem_cons hk, List.set_cons_zero, take_getD (by omega), hx]
  simp
theorem half_getD {xs ys : List Int} {k : Nat} (hl : ys.length = xs.length) (hk : k < xs.length) : (ys.take k ++ xs.drop k).getD k 0 = xs.getD k 0 := by
  have h1 : (ys.take k).length = k := by simp; omega
  simp only [List.getD_eq_getElem?_getD]
  rw [List.getElem?_append_right (by omega), h1, Nat.sub_self, List.getElem?_drop]
  simp
theorem half_len {xs ys : List Int} {k : Nat} (hl : ys.length = xs.length) (hk : k ≤ xs.length) : (ys.take k ++ xs.drop k).length = xs.length := by
  simp; omega
def scrB (s : Int) (xs : List Int) : List Int := if (1 ≤ s ∧ s ≤ 127) ∧ upTo 1 xs = true then scrL s.toNat xs else xs
theorem scrB_len (s : Int) (xs : List Int) : (scrB s xs).length = xs.length := by
  unfold scrB; split
  · exact scrL_len _ _
  · rfl
theorem out_le (s : Nat) : outS s ≤ 1 := outS_le s
theorem xor_bit {b s : Nat} (hb : b ≤ 1) (hs : s ≤ 127) : bits .xor .i64 (b : Int) ((outS s : Nat) : Int) = ((b ^^^ outS s : Nat) : Int) := by
  have := outS_le s
  exact i64_xor_nat _ _ (by omega) (by omega)
theorem xor_bit_le {b c : Nat} (hb : b ≤ 1) (hc : c ≤ 1) : b ^^^ c ≤ 1 := by
  have := Nat.xor_lt_two_pow (n := 1) (show b < 2 ^ 1 by omega) (show c < 2 ^ 1 by omega)
  omega

theorem impl_out (s : Nat) (w : World) (h2 : s ≤ 127) :
    Calls Try.prog 57 #[.int .i64 (s : Int)] w fun e w' => e = .returned (.int .i64 ((outS s : Nat) : Int)) ∧ w = w' := by
  go_enter Try.func57, Try.ntmps57
  go_wp2
  go_ret
  exact ⟨ret_int (out_bits h2), rfl⟩
set_option maxHeartbeats 1600000 in
theorem impl_Scramble_round (w wr : World) (u : Value) (xs L : List Int) (s k g c T : Nat) (hu : Rd .i64 w u xs) (HB : Hid (upTo 1 xs = true)) (hs1 : 1 ≤ s ∧ s ≤ 127) (HL : Hid (L.length = xs.length)) (HG : Hid (∀ k, k < xs.length → L.getD k 0 = scrAt s xs k)) (hk : k < xs.length)
    (hr : Own .i64 3 wr w.heap.size T (.slice (some ⟨g, 0, none⟩) xs.length c) (L.take k ++ xs.drop k)) :
    ∃ (m o b y : Nat), Hid (m = scrN k s) ∧ (1 ≤ m ∧ m ≤ 127) ∧ Hid (nxtS m = scrN (k + 1) s) ∧ Hid (o = outS m) ∧ o ≤ 1 ∧ b ≤ 1 ∧ xs.getD k 0 = (b : Int) ∧ wr.cell? ⟨g, k, none⟩ = some (.int .i64 (b : Int)) ∧ wr.frozen? ⟨g, k, none⟩ = false ∧
      bits .xor .i64 (b : Int) (o : Int) = (y : Int) ∧ Own .i64 3 (wr.setCell ⟨g, k, none⟩ (.int .i64 (y : Int))) w.heap.size T (.slice (some ⟨g, 0, none⟩) xs.length c) (L.take (k + 1) ++ xs.drop (k + 1)) ∧ Only w.heap.size T wr (wr.setCell ⟨g, k, none⟩ (.int .i64 (y : Int))) := by
  have hm := scrN_bd hs1 k
  have hx := upTo_mem HB.out (mem_getD hk rfl)
  obtain ⟨b, hb⟩ := Int.eq_ofNat_of_zero_le hx.1
  have hb1 : b ≤ 1 := by omega
  have ho := outS_le (scrN k s)
  have hxb := xor_bit_le hb1 ho
  have hy : L.getD k 0 = ((b ^^^ outS (scrN k s) : Nat) : Int) := by rw [HG.out k hk, scrAt, hb]; rfl
  have hst := hr.stored (j := k) (x := ((b ^^^ outS (scrN k s) : Nat) : Int)) (by go_wf)
  rw [half_set HL.out hk hy] at hst
  have hc := hr.cell (j := k) (by rw [half_len HL.out (by omega)]; exact hk)
  rw [half_getD HL.out hk, hb] at hc
  exact ⟨scrN k s, outS (scrN k s), b, b ^^^ outS (scrN k s), Lib.hid rfl, hm, Lib.hid rfl, Lib.hid rfl, ho, hb1, hb, hc, hr.frozen k, xor_bit hb1 hm.2, hst.1, hst.2⟩
set_option maxHeartbeats 1600000 in
theorem impl_Scramble (s : Int) (u : Value) (xs : List Int) (w : World) (hs : -9223372036854775808 ≤ s ∧ s ≤ 9223372036854775807) (hu : Rd .i64 w u xs) (hn : xs.length ≤ 1073741824) :
    Calls Try.prog 29 #[.int .i64 s, u] w (Fresh .i64 3 (scrB s xs) w) := by
  have Q := Lib.hid hu
  obtain ⟨a, c, rfl⟩ := hu.shape
  by_cases h : 1 ≤ s ∧ s ≤ 127
  · obtain ⟨s, rfl⟩ := Int.eq_ofNat_of_zero_le (show 0 ≤ s by omega)
    have hs1 : 1 ≤ s ∧ s ≤ 127 := by omega
    have h1 := h.1
    have h2 := h.2
    by_cases hb : upTo 1 xs = true
    · rw [show scrB (s : Int) xs = scrL s xs from if_pos ⟨h, hb⟩]
      have HB := Lib.hid hb
      have HL := Lib.hid (scrL_len xs s)
      have HG := Lib.hid (fun k hk => scrL_getD xs s k hk)
      obtain ⟨L, hL⟩ : ∃ L, L = scrL s xs := ⟨_, rfl⟩
      rw [← hL] at HL HG ⊢
      have cb := fun v W hv => impl_IsBitString v xs W hv
      rw [hb] at cb
      have CB := Lib.hid cb
      clear cb hb hL h hs
      go_enter Try.func29, Try.ntmps29
      go_wp2_with fail
      refine (impl_copyInts _ _ _ hu hn).mono ?_
      rintro e w1 ⟨v, rfl, o1, b1⟩
      have r1 := hu.keep b1
      rcases o1.parts with ⟨h0, a', c', rfl⟩ | ⟨h0, g, c', rfl⟩
      · have H0 := Lib.hid h0
        have hz : xs.length ≤ 0 := by rw [h0]; exact Nat.le_refl _
        clear h0
        go_wp2_with (go_at_call 55; refine (impl_in_yes _ _ _ _ (by omega)).mono ?_; rintro e w' ⟨rfl, rfl⟩)
        refine (CB.out _ _ r1).mono ?_
        rintro e w2 ⟨rfl, b2⟩
        have b2' := below_next b1 b2
        have o2 := (o1.keep b2 (Nat.le_refl _)).top
        go_wp2_with fail
        go_rounds 1
        go_ret
        have hL0 : L = xs := by rw [H0.out, List.eq_nil_of_length_eq_zero (l := L) (by rw [HL.out]; omega)]
        exact ⟨_, rfl, by rw [hL0]; exact o2, b2'⟩
      · go_wp2_with (go_at_call 55; refine (impl_in_yes _ _ _ _ (by omega)).mono ?_; rintro e w' ⟨rfl, rfl⟩)
        refine (CB.out _ _ r1).mono ?_
        rintro e w2 ⟨rfl, b2⟩
        have b2' := below_next b1 b2
        have o2 := (o1.keep b2 (Nat.le_refl _)).top
        clear o1 b1 r1
        go_wp2_with fail
        go_loopw [0, 20] (fun st i wr => ∃ k : Nat, k ≤ xs.length ∧ i = .int .i64 k ∧ st = .int .i64 ((scrN k s : Nat) : Int) ∧ Own .i64 3 wr w.heap.size w2.heap.size (.slice (some ⟨g, 0, none⟩) xs.length c') (L.take k ++ xs.drop k) ∧ Below w.heap.size w wr) (fun _ i _ => xs.length - (intOf i).toNat)
        case atStart => exact ⟨0, Nat.zero_le _, rfl, rfl, by simpa using o2, b2'⟩
        case round =>
          obtain ⟨k, hk, rfl, rfl, hr, hbw⟩ := hrel
          by_cases hlt : k < xs.length
          · obtain ⟨m, o, b, y, HM, ⟨q1, q2⟩, HN, HO, ho, hb1, hxb, g2, g3, ex, hst, hon⟩ := impl_Scramble_round w wr _ xs L s k g c' _ hu HB hs1 HL HG hlt hr

            have CO := Lib.hid (fun W => impl_out m W q2)
            rw [← HO.out] at CO
            rw [← HM.out]
            have HXB := Lib.hid hxb
            clear hxb hr HG HL HB
            go_wp2_with fail
            go_region_with (go_at_call 57; refine (CO.out _).mono ?_; rintro e w' ⟨rfl, rfl⟩)
            all_goals
              go_wp2_with (go_at_call 31; refine (impl_next m _ q1 q2).mono ?_; rintro e w' ⟨rfl, rfl⟩)
              go_roundw
              case rel => exact ⟨k + 1, by omega, by go_num, by rw [HN.out], hst, (hbw.trans (hon.below (Nat.le_refl _) hbw.size)).drew⟩
              case measure => simp [intOf]; omega
          · have hke : k = xs.length := by omega
            subst hke
            have hr' : L.take xs.length ++ xs.drop xs.length = L := by rw [List.drop_length, List.append_nil, List.take_of_length_le (by rw [HL.out]; exact Nat.le_refl _)]
            rw [hr'] at hr
            go_wp2
            go_ret
            exact ⟨_, rfl, hr.top, hbw⟩
    · rw [show scrB (s : Int) xs = xs from if_neg (fun q => hb q.2)]
      have hb' : upTo 1 xs = false := by simpa using hb
      have cb := fun v W hv => impl_IsBitString v xs W hv
      rw [hb'] at cb
      have CB := Lib.hid cb
      clear cb hb hb' h hs
      go_enter Try.func29, Try.ntmps29
      go_wp2_with fail
      refine (impl_copyInts _ _ _ hu hn).mono ?_
      rintro e w1 ⟨v, rfl, o1, b1⟩
      have r1 := hu.keep b1
      go_wp2_with (go_at_call 55; refine (impl_in_yes _ _ _ _ (by omega)).mono ?_; rintro e w' ⟨rfl, rfl⟩)
      refine (CB.out _ _ r1).mono ?_
      rintro e w2 ⟨rfl, b2⟩
      have b2' := below_next b1 b2
      have o2 := (o1.keep b2 (Nat.le_refl _)).top
      go_wp2_with fail
      go_ret
      exact ⟨_, rfl, o2, b2'⟩
  · rw [show scrB s xs = xs from if_neg (fun q => h q.1)]
    have HH := Lib.hid h
    clear h
    go_enter Try.func29, Try.ntmps29
    go_wp2_with fail
    refine (impl_copyInts _ _ _ hu hn).mono ?_
    rintro e w1 ⟨v, rfl, o1, b1⟩
    have r1 := hu.keep b1
    go_wp2_with (go_at_call 55; refine (impl_in_no _ _ _ _ HH.out).mono ?_; rintro e w' ⟨rfl, rfl⟩)
    go_ret
    exact ⟨_, rfl, o1, b1⟩
end Go.Proofs.Ytdgffiaciccimaa

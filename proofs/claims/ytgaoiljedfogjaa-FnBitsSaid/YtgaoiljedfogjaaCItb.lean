/- Contracts of IntToBits and BytesToBits (program and reference). -/
import Derived.Test.YtgaoiljedfogjaaCApp
import Derived.Test.YtgaoiljedfogjaaCInfo
import Derived.Test.YtgaoiljedfogjaaCLit
import Derived.Test.YtgaoiljedfogjaaCScr
namespace Go.Proofs.Ytgaoiljedfogjaa
open Go.RowKit
set_option linter.unusedVariables false

/-- Bit k of n; the first c bits of n; the bits of bytes. -/
def bitN (n k : Nat) : Nat := n / 2 ^ k % 2
def itb (n c : Nat) : List Int := (List.range c).map fun i => ((bitN n i : Nat) : Int)
def btb (xs : List Int) : List Int := xs.flatMap fun x => itb x.toNat 8
theorem bitN_lt (n k : Nat) : bitN n k < 2 := by unfold bitN; omega
theorem itb_len (n c : Nat) : (itb n c).length = c := by simp [itb]
theorem itb_succ (n c : Nat) : itb n (c + 1) = itb n c ++ [((bitN n c : Nat) : Int)] := by simp [itb, List.range_succ]
theorem btb_len (xs : List Int) : (btb xs).length = 8 * xs.length := by
  induction xs with
  | nil => rfl
  | cons a t ih =>
    have : btb (a :: t) = itb a.toNat 8 ++ btb t := rfl
    rw [this, List.length_append, ih, itb_len, List.length_cons]; omega
theorem btb_step {xs : List Int} {k x : Nat} (h : k < xs.length) (hx : xs.getD k 0 = (x : Int)) : btb (xs.take (k + 1)) = btb (xs.take k) ++ itb x 8 := by
  rw [take_getD h, hx]
  simp [btb]
theorem and_one {m : Nat} (h : m < 9223372036854775808) : bits .and .i64 (m : Int) 1 = ((m % 2 : Nat) : Int) := by
  rw [show (1 : Int) = ((1 : Nat) : Int) from rfl, i64_and_nat _ _ h (by omega), Nat.and_one_is_mod]
theorem bit_and {n k : Nat} (h : n < 9223372036854775808) : bits .and .i64 ((n : Int) / 2 ^ k) 1 = ((bitN n k : Nat) : Int) := by
  have e : (n : Int) / 2 ^ k = ((n / 2 ^ k : Nat) : Int) := by simp
  have hl : n / 2 ^ k ≤ n := Nat.div_le_self _ _
  rw [e, and_one (by omega)]; rfl
/-- A slice that is filled from its beginning on, whatever with. -/
theorem fillF_set {L : List Int} {c k : Nat} {x : Int} (hL : L.length = k) (hk : k < c) : (L ++ List.replicate (c - k) 0).set k x = (L ++ [x]) ++ List.replicate (c - (k + 1)) 0 := by
  rw [List.set_append_right _ _ (by omega), hL, Nat.sub_self, show c - k = (c - (k + 1)) + 1 by omega, List.replicate_succ, List.set_cons_zero]
  simp
/-- What IntToBits computes, for all arguments. -/
def itbI (n c : Int) : List Int := if 0 ≤ n ∧ 0 ≤ c ∧ c ≤ 40 then itb n.toNat c.toNat else []
theorem itbI_len (n c : Int) : (itbI n c).length ≤ 40 := by
  unfold itbI; split
  · rw [itb_len]; omega
  · simp

set_option maxHeartbeats 800000 in
theorem spec_IntToBits (n c : Int) (w : World) (hn : -9223372036854775808 ≤ n ∧ n ≤ 9223372036854775807) (hc : -9223372036854775808 ≤ c ∧ c ≤ 9223372036854775807) :
    Calls Try.prog 15 #[.int .i64 n, .int .i64 c] w (Fresh .i64 3 (itbI n c) w) := by
  by_cases h : 0 ≤ n ∧ 0 ≤ c ∧ c ≤ 40
  · obtain ⟨n, rfl⟩ := Int.eq_ofNat_of_zero_le h.1
    obtain ⟨c, rfl⟩ := Int.eq_ofNat_of_zero_le h.2.1
    rw [show itbI (n : Int) (c : Int) = itb n c from if_pos h]
    have h1 : (c : Int) ≤ 40 := h.2.2
    have hnn : n < 9223372036854775808 := by omega
    have n0 : decide ((n : Int) < 0) = false := by simp
    clear h hn hc
    go_enter Try.func15, Try.ntmps15
    go_wp2_with (first | (go_at_call 55; refine (spec_in_yes _ _ _ _ (by omega)).mono ?_; rintro e w' ⟨rfl, rfl⟩) | (go_at_call 55; refine (spec_in_no _ _ _ _ (by omega)).mono ?_; rintro e w' ⟨rfl, rfl⟩))
    go_loopw [5, 6] (fun v i wr => ∃ k : Nat, k ≤ c ∧ i = .int .i64 k ∧ Own .i64 3 wr w.heap.size wr.heap.size v (itb n k) ∧ Below w.heap.size w wr) (fun _ i _ => c - (intOf i).toNat)
    case atStart => exact ⟨0, Nat.zero_le _, rfl, (own_lit0 w (Nat.le_refl _)).top, (Below.refl _ _).alloc (Nat.le_refl _) _⟩
    case round =>
      obtain ⟨k, hk, rfl, hr, hbw⟩ := hrel
      have hsz := hbw.size
      have hl2 : (itb n k).length ≤ 40 := by rw [itb_len]; omega
      by_cases hlt : k < c
      · have eb := bit_and (k := k) hnn
        have hq := bitN_lt n k
        have HM := Lib.hid (itb_succ n k)
        obtain ⟨q, hq1⟩ : ∃ q, q = bitN n k := ⟨_, rfl⟩
        rw [← hq1] at eb hq HM
        clear hq1
        go_wp2_with (at_builtin; refine wpList_app _ rfl (.tmp 21) (.tmp 26) 22 rfl w.heap.size 3 .i64 8 Try.underlying22 info64 (by omega) _ _ (itb n k) [(q : Int)] rfl rfl (hr.alloc _) (rd_lit1 _ _ (by go_wf)) (by simp; omega) (by simp; omega) ?_)
        intro v' w' o' b'
        have hbw' := (hbw.alloc hsz _).trans b'
        go_wp2
        go_roundw
        case rel => exact ⟨k + 1, by omega, by go_num, by rw [HM.out]; exact o', hbw'⟩
        case measure => simp [intOf]; omega
      · have hke : k = c := by omega
        subst hke
        go_wp2
        go_ret
        exact ⟨_, rfl, hr, hbw⟩
  · rw [show itbI n c = [] from if_neg h]
    obtain ⟨l, u⟩ := hn
    obtain ⟨l', u'⟩ := hc
    rcases (show n < 0 ∨ (0 ≤ n ∧ c < 0) ∨ (0 ≤ n ∧ 0 ≤ c ∧ 40 < c) by omega) with h1 | ⟨h1, h2⟩ | ⟨h1, h2, h3⟩
    · clear h
      go_enter Try.func15, Try.ntmps15
      go_wp2_with (first | (go_at_call 55; refine (spec_in_yes _ _ _ _ (by omega)).mono ?_; rintro e w' ⟨rfl, rfl⟩) | (go_at_call 55; refine (spec_in_no _ _ _ _ (by omega)).mono ?_; rintro e w' ⟨rfl, rfl⟩))
      go_ret
      exact ⟨_, rfl, (own_lit0 w (Nat.le_refl _)).top, (Below.refl _ _).alloc (Nat.le_refl _) _⟩
    · have n0 : decide (n < 0) = false := by simp; omega
      clear h
      go_enter Try.func15, Try.ntmps15
      go_wp2_with (first | (go_at_call 55; refine (spec_in_yes _ _ _ _ (by omega)).mono ?_; rintro e w' ⟨rfl, rfl⟩) | (go_at_call 55; refine (spec_in_no _ _ _ _ (by omega)).mono ?_; rintro e w' ⟨rfl, rfl⟩))
      go_ret
      exact ⟨_, rfl, (own_lit0 w (Nat.le_refl _)).top, (Below.refl _ _).alloc (Nat.le_refl _) _⟩
    · have n0 : decide (n < 0) = false := by simp; omega
      clear h
      go_enter Try.func15, Try.ntmps15
      go_wp2_with (first | (go_at_call 55; refine (spec_in_yes _ _ _ _ (by omega)).mono ?_; rintro e w' ⟨rfl, rfl⟩) | (go_at_call 55; refine (spec_in_no _ _ _ _ (by omega)).mono ?_; rintro e w' ⟨rfl, rfl⟩))
      go_ret
      exact ⟨_, rfl, (own_lit0 w (Nat.le_refl _)).top, (Below.refl _ _).alloc (Nat.le_refl _) _⟩
set_option maxHeartbeats 800000 in
theorem impl_IntToBits (n c : Int) (w : World) (hn : -9223372036854775808 ≤ n ∧ n ≤ 9223372036854775807) (hc : -9223372036854775808 ≤ c ∧ c ≤ 9223372036854775807) :
    Calls Try.prog 16 #[.int .i64 n, .int .i64 c] w (Fresh .i64 3 (itbI n c) w) := by
  by_cases h : 0 ≤ n ∧ 0 ≤ c ∧ c ≤ 40
  · obtain ⟨n, rfl⟩ := Int.eq_ofNat_of_zero_le h.1
    obtain ⟨c, rfl⟩ := Int.eq_ofNat_of_zero_le h.2.1
    rw [show itbI (n : Int) (c : Int) = itb n c from if_pos h]
    have h1 : (c : Int) ≤ 40 := h.2.2
    have hnn : n < 9223372036854775808 := by omega
    have n0 : decide ((n : Int) < 0) = false := by simp
    clear h hn hc
    go_enter Try.func16, Try.ntmps16
    go_wp2_with (first | (at_make; refine wpList_mk _ rfl _ _ 22 rfl w.heap.size 3 .i64 8 Try.underlying22 info64 (by omega) rfl _ _ _ _ c rfl rfl rfl rfl (by omega) (Nat.le_refl _) ?_) | (first | (go_at_call 56; refine (impl_in_yes _ _ _ _ (by omega)).mono ?_; rintro e w' ⟨rfl, rfl⟩) | (go_at_call 56; refine (impl_in_no _ _ _ _ (by omega)).mono ?_; rintro e w' ⟨rfl, rfl⟩)))
    intro w1 o1 b1 z1
    go_wp2
    go_loopw [19] (fun i wr => ∃ k : Nat, k ≤ c ∧ i = .int .i64 k ∧ Own .i64 3 wr w.heap.size (w.heap.size + 1) (.slice (some ⟨w.heap.size, 0, none⟩) c c) (itb n k ++ List.replicate (c - k) 0) ∧ Below w.heap.size w wr) (fun i _ => c - (intOf i).toNat)
    case atStart => exact ⟨0, Nat.zero_le _, rfl, by simpa [itb] using o1, b1⟩
    case round =>
      obtain ⟨k, hk, rfl, hr, hbw⟩ := hrel
      by_cases hlt : k < c
      · have eb := bit_and (k := k) hnn
        have hq := bitN_lt n k
        have HM := Lib.hid (itb_succ n k)
        obtain ⟨q, hq1⟩ : ∃ q, q = bitN n k := ⟨_, rfl⟩
        rw [← hq1] at eb hq HM
        have hst := hr.stored (j := k) (x := (q : Int)) (by go_wf)
        rw [fillF_set (itb_len n k) hlt, ← HM.out] at hst
        have g2 := hr.cell (j := k) (by rw [List.length_append, itb_len, List.length_replicate]; omega)
        obtain ⟨y, hy⟩ : ∃ y, y = (itb n k ++ List.replicate (c - k) 0).getD k 0 := ⟨_, rfl⟩
        rw [← hy] at g2
        have g3 := hr.frozen k
        clear hr hy hq1 o1
        go_wp2
        go_roundw
        case rel => exact ⟨k + 1, by omega, by go_num, hst.1, hbw.trans (hst.2.below (Nat.le_refl _) hbw.size)⟩
        case measure => simp [intOf]; omega
      · have hke : k = c := by omega
        subst hke
        rw [Nat.sub_self, List.replicate_zero, List.append_nil] at hr
        go_wp2
        go_ret
        exact ⟨_, rfl, hr.top, hbw⟩
  · rw [show itbI n c = [] from if_neg h]
    obtain ⟨l, u⟩ := hn
    obtain ⟨l', u'⟩ := hc
    rcases (show n < 0 ∨ (0 ≤ n ∧ c < 0) ∨ (0 ≤ n ∧ 0 ≤ c ∧ 40 < c) by omega) with h1 | ⟨h1, h2⟩ | ⟨h1, h2, h3⟩
    · clear h
      go_enter Try.func16, Try.ntmps16
      go_wp2_with (first | (go_at_call 56; refine (impl_in_yes _ _ _ _ (by omega)).mono ?_; rintro e w' ⟨rfl, rfl⟩) | (go_at_call 56; refine (impl_in_no _ _ _ _ (by omega)).mono ?_; rintro e w' ⟨rfl, rfl⟩))
      go_ret
      exact ⟨_, rfl, (own_lit0 w (Nat.le_refl _)).top, (Below.refl _ _).alloc (Nat.le_refl _) _⟩
    · have n0 : decide (n < 0) = false := by simp; omega
      clear h
      go_enter Try.func16, Try.ntmps16
      go_wp2_with (first | (go_at_call 56; refine (impl_in_yes _ _ _ _ (by omega)).mono ?_; rintro e w' ⟨rfl, rfl⟩) | (go_at_call 56; refine (impl_in_no _ _ _ _ (by omega)).mono ?_; rintro e w' ⟨rfl, rfl⟩))
      go_ret
      exact ⟨_, rfl, (own_lit0 w (Nat.le_refl _)).top, (Below.refl _ _).alloc (Nat.le_refl _) _⟩
    · have n0 : decide (n < 0) = false := by simp; omega
      clear h
      go_enter Try.func16, Try.ntmps16
      go_wp2_with (first | (go_at_call 56; refine (impl_in_yes _ _ _ _ (by omega)).mono ?_; rintro e w' ⟨rfl, rfl⟩) | (go_at_call 56; refine (impl_in_no _ _ _ _ (by omega)).mono ?_; rintro e w' ⟨rfl, rfl⟩))
      go_ret
      exact ⟨_, rfl, (own_lit0 w (Nat.le_refl _)).top, (Below.refl _ _).alloc (Nat.le_refl _) _⟩
set_option maxHeartbeats 1600000 in
theorem spec_BytesToBits (u : Value) (xs : List Int) (w : World) (hu : Rd .u8 w u xs) (hn : xs.length ≤ 1073741824) :
    Calls Try.prog 32 #[u] w (Fresh .i64 3 (btb xs) w) := by
  rcases hu.parts with ⟨rfl, a, c, rfl⟩ | ⟨h0, b, off, c, rfl⟩
  · go_enter Try.func32, Try.ntmps32
    go_wp2
    go_rounds 1
    go_ret
    exact ⟨_, rfl, (own_lit0 w (Nat.le_refl _)).top, (Below.refl _ _).alloc (Nat.le_refl _) _⟩
  · go_enter Try.func32, Try.ntmps32
    go_wp2
    go_loopw [3, 4] (fun v i wr => ∃ k : Nat, k ≤ xs.length ∧ i = .int .i64 k ∧ Own .i64 3 wr w.heap.size wr.heap.size v (btb (xs.take k)) ∧ Below w.heap.size w wr) (fun _ i _ => xs.length - (intOf i).toNat)
    case atStart => exact ⟨0, Nat.zero_le _, rfl, (own_lit0 w (Nat.le_refl _)).top, (Below.refl _ _).alloc (Nat.le_refl _) _⟩
    case round =>
      obtain ⟨k, hk, rfl, hr, hbw⟩ := hrel
      obtain ⟨wo, rfl⟩ : ∃ wo : World, wo = wr := ⟨_, rfl⟩
      have hl2 : (btb (xs.take k)).length ≤ 8589934592 := by rw [btb_len]; simp; omega
      by_cases hlt : k < xs.length
      · obtain ⟨x, hb, HX, g1, x0, x1⟩ := hu.elem8 hbw hlt
        obtain ⟨x, rfl⟩ := Int.eq_ofNat_of_zero_le x0
        have HM := Lib.hid (btb_step hlt HX.out)
        have hg1 : ∀ W, Below w.heap.size w W → W.cell? ⟨b, off + k, none⟩ = some (.int .u8 (x : Int)) := fun W hW => by
          obtain ⟨x', _, HX', g', _, _⟩ := hu.elem8 hW hlt
          rw [g', ← HX'.out, HX.out]
        have HG := Lib.hid hg1
        obtain ⟨L, hL⟩ : ∃ L, L = btb (xs.take k) := ⟨_, rfl⟩
        have hr' := hr
        rw [← hL] at HM hl2 hr'
        clear hg1 hr hL
        go_wp2
        go_loopw [3, 5] (fun v i wr => ∃ j : Nat, j ≤ 8 ∧ i = .int .i64 j ∧ Own .i64 3 wr w.heap.size wr.heap.size v (L ++ itb x j) ∧ Below w.heap.size w wr) (fun _ i _ => 8 - (intOf i).toNat)
        case atStart => exact ⟨0, Nat.zero_le _, rfl, by simpa [itb] using hr', hbw⟩
        case round =>
          obtain ⟨j, hj, rfl, hr2, hbw2⟩ := hrel
          have hsz := hbw2.size
          have hl3 := itb_len x j
          have hl4 : (itb x j).length ≤ 8 := by omega
          clear hl3
          have g2 := HG.out _ hbw2
          by_cases hlt8 : j < 8
          · have eb := bit_and (n := x) (k := j) (by omega)
            have hq := bitN_lt x j
            have HS : Hid (L ++ itb x (j + 1) = L ++ (itb x j ++ [((bitN x j : Nat) : Int)])) := Lib.hid (by rw [itb_succ])
            have hd : (x : Int) / 2 ^ j = ((x / 2 ^ j : Nat) : Int) := by simp
            have hd0 : 0 ≤ (x : Int) / 2 ^ j := by rw [hd]; exact Int.natCast_nonneg _
            have hd1 : (x : Int) / 2 ^ j ≤ 255 := by rw [hd]; exact Int.le_trans (Int.ofNat_le.2 (Nat.div_le_self x (2 ^ j))) x1
            clear hd
            obtain ⟨q, hq1⟩ : ∃ q, q = bitN x j := ⟨_, rfl⟩
            rw [← hq1] at eb hq HS
            clear hq1
            go_wp2_with (at_builtin; refine wpList_app _ rfl (.tmp 17) (.tmp 26) 22 rfl w.heap.size 3 .i64 8 Try.underlying22 info64 (by omega) _ _ (L ++ itb x j) [(q : Int)] rfl rfl (hr2.alloc _) (rd_lit1 _ _ (by go_wf)) (by simp; omega) (by simp; omega) ?_)
            intro v' w' o' b'
            have hbw' := (hbw2.alloc hsz _).trans b'
            go_wp2
            go_roundw
            case rel => exact ⟨j + 1, by omega, by go_num, by rw [HS.out]; exact o', hbw'⟩
            case measure => simp [intOf]; omega
          · have he : j = 8 := by omega
            subst he
            go_wp2
            go_roundw
            case rel => exact ⟨k + 1, by omega, by go_num, by rw [HM.out]; exact hr2, hbw2⟩
            case measure => simp [intOf]; omega
      · rw [take_all hlt] at hr
        go_wp2
        go_ret
        exact ⟨_, rfl, hr, hbw⟩
set_option maxHeartbeats 1600000 in
theorem impl_BytesToBits (u : Value) (xs : List Int) (w : World) (hu : Rd .u8 w u xs) (hn : xs.length ≤ 1073741824) :
    Calls Try.prog 33 #[u] w (Fresh .i64 3 (btb xs) w) := by
  rcases hu.parts with ⟨rfl, a, c, rfl⟩ | ⟨h0, b, off, c, rfl⟩
  · go_enter Try.func33, Try.ntmps33
    go_wp2_with (at_make; refine wpList_mk0 _ rfl _ _ 22 rfl w.heap.size 3 .i64 8 Try.underlying22 info64 (by omega) _ _ _ 0 rfl rfl (by omega) (by omega) (Nat.le_refl _) ?_)
    intro w1 o1 b1
    go_wp2
    go_rounds 1
    go_ret
    exact ⟨_, rfl, o1, b1⟩
  · go_enter Try.func33, Try.ntmps33
    go_wp2_with (at_make; refine wpList_mk0 _ rfl _ _ 22 rfl w.heap.size 3 .i64 8 Try.underlying22 info64 (by omega) _ _ _ (8 * xs.length) rfl rfl (by omega) (by omega) (Nat.le_refl _) ?_)
    intro w1 o1 b1
    go_wp2
    go_loopw [3, 13] (fun v i wr => ∃ k : Nat, k ≤ xs.length ∧ i = .int .i64 k ∧ Own .i64 3 wr w.heap.size wr.heap.size v (btb (xs.take k)) ∧ Below w.heap.size w wr) (fun _ i _ => xs.length - (intOf i).toNat)
    case atStart => exact ⟨0, Nat.zero_le _, rfl, o1, b1⟩
    case round =>
      obtain ⟨k, hk, rfl, hr, hbw⟩ := hrel
      obtain ⟨wo, rfl⟩ : ∃ wo : World, wo = wr := ⟨_, rfl⟩
      have hl2 : (btb (xs.take k)).length ≤ 8589934592 := by rw [btb_len]; simp; omega
      by_cases hlt : k < xs.length
      · obtain ⟨x, hb, HX, g1, x0, x1⟩ := hu.elem8 hbw hlt
        obtain ⟨x, rfl⟩ := Int.eq_ofNat_of_zero_le x0
        have HM := Lib.hid (btb_step hlt HX.out)
        have hg1 : ∀ W, Below w.heap.size w W → W.cell? ⟨b, off + k, none⟩ = some (.int .u8 (x : Int)) := fun W hW => by
          obtain ⟨x', _, HX', g', _, _⟩ := hu.elem8 hW hlt
          rw [g', ← HX'.out, HX.out]
        have HG := Lib.hid hg1
        obtain ⟨L, hL⟩ : ∃ L, L = btb (xs.take k) := ⟨_, rfl⟩
        have hr' := hr
        rw [← hL] at HM hl2 hr'
        clear hg1 hr hL
        go_wp2
        go_loopw [3, 6] (fun v i wr => ∃ j : Nat, j ≤ 8 ∧ i = .int .i64 j ∧ Own .i64 3 wr w.heap.size wr.heap.size v (L ++ itb x j) ∧ Below w.heap.size w wr) (fun _ i _ => 8 - (intOf i).toNat)
        case atStart => exact ⟨0, Nat.zero_le _, rfl, by simpa [itb] using hr', hbw⟩
        case round =>
          obtain ⟨j, hj, rfl, hr2, hbw2⟩ := hrel
          have hsz := hbw2.size
          have hl3 := itb_len x j
          have hl4 : (itb x j).length ≤ 8 := by omega
          clear hl3
          have g2 := HG.out _ hbw2
          by_cases hlt8 : j < 8
          · have eb := bit_and (n := x) (k := j) (by omega)
            have hq := bitN_lt x j
            have HS : Hid (L ++ itb x (j + 1) = L ++ (itb x j ++ [((bitN x j : Nat) : Int)])) := Lib.hid (by rw [itb_succ])
            have hd : (x : Int) / 2 ^ j = ((x / 2 ^ j : Nat) : Int) := by simp
            have hd0 : 0 ≤ (x : Int) / 2 ^ j := by rw [hd]; exact Int.natCast_nonneg _
            have hd1 : (x : Int) / 2 ^ j ≤ 255 := by rw [hd]; exact Int.le_trans (Int.ofNat_le.2 (Nat.div_le_self x (2 ^ j))) x1
            clear hd
            obtain ⟨q, hq1⟩ : ∃ q, q = bitN x j := ⟨_, rfl⟩
            rw [← hq1] at eb hq HS
            clear hq1
            go_wp2_with (at_builtin; refine wpList_app _ rfl (.tmp 21) (.tmp 27) 22 rfl w.heap.size 3 .i64 8 Try.underlying22 info64 (by omega) _ _ (L ++ itb x j) [(q : Int)] rfl rfl (hr2.alloc _) (rd_lit1 _ _ (by go_wf)) (by simp; omega) (by simp; omega) ?_)
            intro v' w' o' b'
            have hbw' := (hbw2.alloc hsz _).trans b'
            go_wp2
            go_roundw
            case rel => exact ⟨j + 1, by omega, by go_num, by rw [HS.out]; exact o', hbw'⟩
            case measure => simp [intOf]; omega
          · have he : j = 8 := by omega
            subst he
            go_wp2
            go_roundw
            case rel => exact ⟨k + 1, by omega, by go_num, by rw [HM.out]; exact hr2, hbw2⟩
            case measure => simp [intOf]; omega
      · rw [take_all hlt] at hr
        go_wp2
        go_ret
        exact ⟨_, rfl, hr, hbw⟩
end Go.Proofs.Ytgaoiljedfogjaa

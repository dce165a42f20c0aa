/- Contracts of BitsToBytes (program and reference). -/
import Derived.Test.YtgaoiljedfogjaaCB2i
import Derived.Test.YtgaoiljedfogjaaCItb
import Derived.BigRegion
namespace Go.Proofs.Ytgaoiljedfogjaa
open Go.RowKit
set_option linter.unusedVariables false

/-- The bytes of a bit string whose first i bits have been laid; all of them. -/
def b2bN (xs : List Int) (i : Nat) : List Int := (List.range (xs.length / 8)).map fun j => ((bvN (xs.drop (8 * j)) (min 8 (i - 8 * j)) : Nat) : Int)
def b2bL (xs : List Int) : List Int := (List.range (xs.length / 8)).map fun j => ((bvN (xs.drop (8 * j)) 8 : Nat) : Int)
def okB (xs : List Int) : Bool := upTo 1 xs && decide (xs.length % 8 = 0)
def b2b (xs : List Int) : List Int := if okB xs = true then b2bL xs else []
theorem b2bN_len (xs : List Int) (i : Nat) : (b2bN xs i).length = xs.length / 8 := by simp [b2bN]
theorem b2bL_len (xs : List Int) : (b2bL xs).length = xs.length / 8 := by simp [b2bL]
theorem b2b_len (xs : List Int) : (b2b xs).length ≤ xs.length := by
  unfold b2b; split
  · rw [b2bL_len]; omega
  · simp
theorem b2bN_zero (xs : List Int) : b2bN xs 0 = List.replicate (xs.length / 8) 0 := by
  apply List.ext_getElem
  · simp [b2bN]
  · intro n h1 h2; simp [b2bN, bvN]
theorem b2bN_all {xs : List Int} (h : xs.length % 8 = 0) : b2bN xs xs.length = b2bL xs := by
  apply List.ext_getElem
  · simp [b2bN, b2bL]
  · intro n h1 h2
    have h3 : n < xs.length / 8 := by simpa [b2bN] using h1
    simp only [b2bN, b2bL, List.getElem_map, List.getElem_range]
    rw [show min 8 (xs.length - 8 * n) = 8 by omega]
theorem b2bN_getD {xs : List Int} {i j : Nat} (h : j < xs.length / 8) : (b2bN xs i).getD j 0 = ((bvN (xs.drop (8 * j)) (min 8 (i - 8 * j)) : Nat) : Int) := by
  simp [b2bN, h]
theorem b2bN_set {xs : List Int} {i : Nat} (h : i < xs.length) (h8 : xs.length % 8 = 0) : (b2bN xs i).set (i / 8) ((bvN (xs.drop (8 * (i / 8))) (i % 8 + 1) : Nat) : Int) = b2bN xs (i + 1) := by
  apply List.ext_getElem
  · simp [b2bN]
  · intro n h1 h2
    have h3 : n < xs.length / 8 := by simpa [b2bN] using h2
    rw [List.getElem_set]
    simp only [b2bN, List.getElem_map, List.getElem_range]
    split
    · next he => subst he; rw [show min 8 (i + 1 - 8 * (i / 8)) = i % 8 + 1 by omega]
    · next he =>
      rcases Nat.lt_or_gt_of_ne he with hlt | hgt
      · rw [show i - 8 * n = 0 by omega, show i + 1 - 8 * n = 0 by omega]
      · rw [show min 8 (i - 8 * n) = 8 by omega, show min 8 (i + 1 - 8 * n) = 8 by omega]
theorem drop_getD (xs : List Int) (a k : Nat) : (xs.drop a).getD k 0 = xs.getD (a + k) 0 := by
  simp [List.getD_eq_getElem?_getD, List.getElem?_drop]
theorem upTo_drop {m : Int} {xs : List Int} (h : upTo m xs = true) (a : Nat) : upTo m (xs.drop a) = true := by
  unfold upTo at *
  exact List.all_eq_true.2 fun x hx => List.all_eq_true.1 h x (List.mem_of_mem_drop hx)
theorem upTo_take {m : Int} {xs : List Int} (h : upTo m xs = true) (a : Nat) : upTo m (xs.take a) = true := by
  unfold upTo at *
  exact List.all_eq_true.2 fun x hx => List.all_eq_true.1 h x (List.mem_of_mem_take hx)
theorem bvN_take (xs : List Int) : ∀ n k, k ≤ n → bvN (xs.take n) k = bvN xs k
  | n, 0, _ => rfl
  | n, k + 1, h => by
    rw [bvN, bvN, bvN_take xs n k (by omega)]
    simp only [List.getD_eq_getElem?_getD]
    rw [List.getElem?_take_of_lt (by omega)]
theorem b2i_eight {xs : List Int} (h : upTo 1 xs = true) {j : Nat} (hj : 8 * j + 8 ≤ xs.length) : b2i ((xs.drop (8 * j)).take 8) = bvN (xs.drop (8 * j)) 8 := by
  have hl : ((xs.drop (8 * j)).take 8).length = 8 := by simp; omega
  unfold b2i
  rw [if_pos ⟨upTo_take (upTo_drop h _) _, by omega⟩, hl, bvN_take _ 8 8 (Nat.le_refl _)]
theorem b2bL_take (xs : List Int) (j : Nat) (h : j < xs.length / 8) : (b2bL xs).take (j + 1) = (b2bL xs).take j ++ [((bvN (xs.drop (8 * j)) 8 : Nat) : Int)] := by
  rw [List.take_succ_eq_append_getElem (by rw [b2bL_len]; exact h)]
  simp [b2bL]
theorem Rd.sub {k : IntKind} {w wr : World} {b off n c j m : Nat} {xs : List Int} (h : Rd k w (.slice (some ⟨b, off, none⟩) n c) xs) (hb : Below w.heap.size w wr) (hm : 0 < m) (hj : j + m ≤ xs.length) :
    Rd k wr (.slice (some ⟨b, off + j, none⟩) m (c - j)) ((xs.drop j).take m) := by
  have hl : ((xs.drop j).take m).length = m := by simp; omega
  refine ⟨fun y hy => h.1 y (List.mem_of_mem_drop (List.mem_of_mem_take hy)), ?_⟩
  rcases h.2 with ⟨rfl, _⟩ | ⟨h0, b', off', c', hv, h1, h2, hc⟩
  · simp at hj; omega
  · simp only [Value.slice.injEq, Option.some.injEq, Addr.mk.injEq, and_true] at hv
    obtain ⟨⟨rfl, rfl⟩, rfl, rfl⟩ := hv
    have hlt : b < w.heap.size := World.block_lt_of_cell? w _ (hc 0 h0)
    refine .inr ⟨by omega, b, off + j, c - j, by rw [hl], by omega, by omega, fun i hi => ?_⟩
    rw [hb.cell (show b < w.heap.size from hlt), Nat.add_assoc, hc (j + i) (by omega)]
    congr 2
    simp only [List.getD_eq_getElem?_getD]
    rw [List.getElem?_take_of_lt (by omega), List.getElem?_drop]
theorem Rd.cap {k : IntKind} {w : World} {a : Option Addr} {n c : Nat} {xs : List Int} (h : Rd k w (.slice a n c) xs) (h0 : 0 < xs.length) : xs.length ≤ c ∧ c ≤ 9223372036854775807 := by
  rcases h.2 with ⟨rfl, _⟩ | ⟨_, b, off, c', hv, h1, h2, _⟩
  · simp at h0
  · simp only [Value.slice.injEq] at hv
    unfold maxLen at h2; omega
theorem u8_or_nat (a b : Nat) (ha : a < 256) (hb : b < 256) : bits .or .u8 (a : Int) (b : Int) = ((a ||| b : Nat) : Int) := by
  have hx : a ||| b < 2 ^ 8 := Nat.or_lt_two_pow (by omega) (by omega)
  show IntKind.u8.wrap ((BitVec.ofInt 8 (a : Int) ||| BitVec.ofInt 8 (b : Int)).toNat : Int) = _
  rw [BitVec.toNat_or, BitVec.ofInt_natCast, BitVec.ofInt_natCast, BitVec.toNat_ofNat, BitVec.toNat_ofNat, Nat.mod_eq_of_lt (by omega), Nat.mod_eq_of_lt (by omega), IntKind.wrap_u8]
  omega
theorem pow8 {k : Nat} (h : k ≤ 8) : 2 ^ k ≤ 256 := Nat.le_trans (Nat.pow_le_pow_right (by omega) h) (by decide)
theorem or_bits8 {n b k : Nat} (hk : k < 8) (hn : n < 2 ^ k) (hb : b ≤ 1) : bits .or .u8 (n : Int) ((b : Int) * 2 ^ k) = ((n + b * 2 ^ k : Nat) : Int) := by
  have e : (b : Int) * 2 ^ k = ((b * 2 ^ k : Nat) : Int) := by simp
  have h1 : 2 ^ k ≤ 128 := Nat.le_trans (Nat.pow_le_pow_right (by omega) (show k ≤ 7 by omega)) (by decide)
  have h2 : b * 2 ^ k ≤ 1 * 2 ^ k := Nat.mul_le_mul_right _ hb
  rw [e, u8_or_nat _ _ (by omega) (by omega), or_add hn]

set_option maxHeartbeats 3200000 in
theorem impl_BitsToBytes (u : Value) (xs : List Int) (w : World) (hu : Rd .i64 w u xs) (hx : xs.length ≤ 1073741824) :
    Calls Try.prog 42 #[u] w (FreshT .u8 5 (b2b xs) [.bool (okB xs)] w) := by
  by_cases hb : upTo 1 xs = true
  · have cb := fun v W hv => impl_IsBitString v xs W hv
    rw [hb] at cb
    have CB := Lib.hid cb
    have HB := Lib.hid hb
    clear cb
    by_cases hl : xs.length % 8 = 0
    · have hok : okB xs = true := by simp [okB, hb, hl]
      rw [show b2b xs = b2bL xs from if_pos hok, hok]
      have hl8 : ((xs.length : Int) % 8 != 0) = false := by simp; omega
      have HL8 := Lib.hid hl
      clear hb hok hl
      rcases hu.parts with ⟨h0, a, c, rfl⟩ | ⟨h0, b, off, c, rfl⟩
      · have H0 := Lib.hid h0
        clear h0
        go_enter Try.func42, Try.ntmps42
        go_wp2_with fail
        refine (CB.out _ _ hu).mono ?_
        rintro e w1 ⟨rfl, b1⟩
        have s1 := b1.size
        go_wp2_with (at_make; refine wpList_mk _ rfl _ _ 31 rfl w.heap.size 5 .u8 1 Try.underlying31 info8 (by omega) rfl _ _ _ _ 0 rfl rfl rfl rfl (by omega) s1 ?_)
        intro w2 o2 b2 z2
        have b2' := b1.trans b2
        clear z2
        go_wp2
        go_rounds 1
        go_ret2
        exact ⟨_, rfl, by rw [show b2bL xs = [] from by rw [H0.out]; rfl]; exact o2.top, b2'⟩
      · have hcap := hu.cap h0
        obtain ⟨hcap1, hcap2⟩ := hcap
        go_enter Try.func42, Try.ntmps42
        go_wp2_with fail
        refine (CB.out _ _ hu).mono ?_
        rintro e w1 ⟨rfl, b1⟩
        have s1 := b1.size
        go_wp2_with (at_make; refine wpList_mk _ rfl _ _ 31 rfl w.heap.size 5 .u8 1 Try.underlying31 info8 (by omega) rfl _ _ _ _ (xs.length / 8) rfl rfl (by omega) (by omega) (by omega) s1 ?_)
        intro w2 o2 b2 z2
        have b2' := b1.trans b2
        clear z2 b2
        obtain ⟨g, hg⟩ : ∃ g, g = w1.heap.size := ⟨_, rfl⟩
        rw [← hg] at o2 ⊢
        clear hg
        go_wp2
        go_loopw [23] (fun i wr => ∃ k : Nat, k ≤ xs.length ∧ i = .int .i64 k ∧ Own .u8 5 wr w.heap.size (g + 1) (.slice (some ⟨g, 0, none⟩) (xs.length / 8) (xs.length / 8)) (b2bN xs k) ∧ Below w.heap.size w wr) (fun i _ => xs.length - (intOf i).toNat)
        case atStart => exact ⟨0, Nat.zero_le _, rfl, by rw [b2bN_zero]; exact o2, b2'⟩
        case round =>
          obtain ⟨k, hk, rfl, hr, hbw⟩ := hrel
          by_cases hlt : k < xs.length
          · obtain ⟨x, hb, HX, g1, -, -⟩ := hu.elem64 (j := k) hbw hlt
            have hx := upTo_mem HB.out (mem_getD hlt HX.out)
            obtain ⟨x, rfl⟩ := Int.eq_ofNat_of_zero_le hx.1
            have hx1 : x ≤ 1 := by omega
            have hk8 : k / 8 < xs.length / 8 := by have := HL8.out; omega
            have hq := bvN_lt (upTo_drop HB.out (8 * (k / 8))) (k % 8) (by simp; omega)
            have g2 := hr.cell (j := k / 8) (by rw [b2bN_len]; exact hk8)
            rw [b2bN_getD hk8, show min 8 (k - 8 * (k / 8)) = k % 8 by omega] at g2
            have g3 := hr.frozen (k / 8)
            have HS : Hid (bvN (xs.drop (8 * (k / 8))) (k % 8 + 1) = bvN (xs.drop (8 * (k / 8))) (k % 8) + x * 2 ^ (k % 8)) := Lib.hid (by rw [bvN, drop_getD, show 8 * (k / 8) + k % 8 = k by omega, HX.out]; rfl)
            have hq2 := bvN_lt (upTo_drop HB.out (8 * (k / 8))) (k % 8 + 1) (by simp; omega)
            have hp := pow8 (show k % 8 + 1 ≤ 8 by omega)
            have hst := hr.stored (j := k / 8) (x := ((bvN (xs.drop (8 * (k / 8))) (k % 8 + 1) : Nat) : Int)) (WalkArith.wf_u8 (by omega))
            rw [b2bN_set hlt HL8.out, HS.out] at hst
            obtain ⟨q, hq1⟩ : ∃ q, q = bvN (xs.drop (8 * (k / 8))) (k % 8) := ⟨_, rfl⟩
            rw [HS.out] at hq2
            rw [← hq1] at hq g2 hst hq2
            have eo := or_bits8 (show k % 8 < 8 by omega) hq hx1
            have hp2 : 2 ^ (k % 8) ≤ 256 := pow8 (by omega)
            have hq3 : (q : Int) ≤ 255 := by omega
            have hq4 : (0 : Int) ≤ (q : Int) := by omega
            have e2 : (x : Int) * 2 ^ (k % 8) = ((x * 2 ^ (k % 8) : Nat) : Int) := by simp
            have h3 : x * 2 ^ (k % 8) ≤ 255 := by omega
            have s0 : 0 ≤ (x : Int) * 2 ^ (k % 8) := by rw [e2]; exact Int.natCast_nonneg _
            have s1' : (x : Int) * 2 ^ (k % 8) ≤ 255 := by rw [e2]; exact Int.ofNat_le.2 h3
            obtain ⟨r, hr1⟩ : ∃ r, r = q + x * 2 ^ (k % 8) := ⟨_, rfl⟩
            rw [← hr1] at eo hst
            clear hr1 e2 h3 hp hp2 hx hq1 hq hq2 hr HS o2
            have hbg : b ≠ g := by have := hst.1.blk.1; omega
            go_wp2_with fail
            go_region
            all_goals
              go_wp2
              go_roundw
              case rel => exact ⟨k + 1, by omega, by go_num, hst.1, (hbw.trans (hst.2.below (Nat.le_refl _) hbw.size)).drew⟩
              case measure => simp [intOf]; omega
          · have hke : k = xs.length := by omega
            subst hke
            rw [b2bN_all HL8.out] at hr
            go_wp2
            go_ret2
            exact ⟨_, rfl, hr.top, hbw⟩
    · have hok : okB xs = false := by simp [okB, hl]
      rw [show b2b xs = [] from if_neg (by rw [hok]; simp), hok]
      obtain ⟨a, c, rfl⟩ := hu.shape
      have hl8 : ((xs.length : Int) % 8 != 0) = true := by simp; omega
      clear hb hok hl
      go_enter Try.func42, Try.ntmps42
      go_wp2_with fail
      refine (CB.out _ _ hu).mono ?_
      rintro e w1 ⟨rfl, b1⟩
      have s1 := b1.size
      go_wp2_with fail
      go_ret2
      exact ⟨_, rfl, (own_lit0 w1 s1).top, b1.alloc s1 _⟩
  · have hb' : upTo 1 xs = false := by simpa using hb
    have hok : okB xs = false := by simp [okB, hb']
    rw [show b2b xs = [] from if_neg (by rw [hok]; simp), hok]
    have cb := fun v W hv => impl_IsBitString v xs W hv
    rw [hb'] at cb
    have CB := Lib.hid cb
    clear cb hb' hb hok
    obtain ⟨a, c, rfl⟩ := hu.shape
    go_enter Try.func42, Try.ntmps42
    go_wp2_with fail
    refine (CB.out _ _ hu).mono ?_
    rintro e w1 ⟨rfl, b1⟩
    have s1 := b1.size
    go_wp2_with fail
    go_ret2
    exact ⟨_, rfl, (own_lit0 w1 s1).top, b1.alloc s1 _⟩
set_option maxHeartbeats 3200000 in
theorem spec_BitsToBytes (u : Value) (xs : List Int) (w : World) (hu : Rd .i64 w u xs) (hx : xs.length ≤ 1073741824) :
    Calls Try.prog 41 #[u] w (FreshT .u8 5 (b2b xs) [.bool (okB xs)] w) := by
  have B0 : Below w.heap.size w (w.alloc (.cells #[] 5)) := (Below.refl _ _).alloc (Nat.le_refl _) _
  have O0 : Own .u8 5 (w.alloc (.cells #[] 5)) w.heap.size (w.heap.size + 1) (.slice (some ⟨w.heap.size, 0, none⟩) 0 0) [] := own_lit0 w (Nat.le_refl _)
  have R0 := hu.keep B0
  by_cases hb : upTo 1 xs = true
  · have cb := fun v W hv => spec_IsBitString v xs W hv
    rw [hb] at cb
    have CB := Lib.hid cb
    have HB := Lib.hid hb
    clear cb
    by_cases hl : xs.length % 8 = 0
    · have hok : okB xs = true := by simp [okB, hb, hl]
      rw [show b2b xs = b2bL xs from if_pos hok, hok]
      have hl8 : ((xs.length : Int) % 8 != 0) = false := by simp; omega
      have HL8 := Lib.hid hl
      clear hb hok hl
      rcases hu.parts with ⟨h0, a, c, rfl⟩ | ⟨h0, b, off, c, rfl⟩
      · have H0 := Lib.hid h0
        clear h0
        go_enter Try.func41, Try.ntmps41
        go_wp2_with fail
        refine (CB.out _ _ R0).mono ?_
        rintro e w1 ⟨rfl, b1⟩
        have o1 := O0.keep b1 (by simp)
        have b1' := B0.trans (b1.mono (by simp))
        clear O0 R0 b1
        go_wp2_with fail
        go_rounds 1
        go_ret2
        exact ⟨_, rfl, by rw [show b2bL xs = [] from by rw [H0.out]; rfl]; exact o1.top, b1'⟩
      · have hcap := hu.cap h0
        obtain ⟨hcap1, hcap2⟩ := hcap
        go_enter Try.func41, Try.ntmps41
        go_wp2_with fail
        refine (CB.out _ _ R0).mono ?_
        rintro e w1 ⟨rfl, b1⟩
        have o1 := (O0.keep b1 (by simp)).top
        have b1' := B0.trans (b1.mono (by simp))
        clear O0 R0 b1 B0
        go_wp2_with fail
        go_loopw [4, 5] (fun v i wr => ∃ j : Nat, 8 * j ≤ xs.length ∧ i = .int .i64 (8 * (j : Int)) ∧ Own .u8 5 wr w.heap.size wr.heap.size v ((b2bL xs).take j) ∧ Below w.heap.size w wr) (fun _ i _ => xs.length - (intOf i).toNat)
        case atStart => exact ⟨0, Nat.zero_le _, rfl, o1, b1'⟩
        case round =>
          obtain ⟨j, hj, rfl, hr, hbw⟩ := hrel
          by_cases hlt : 8 * j < xs.length
          · have h9 : 8 * j + 8 ≤ xs.length := by have := HL8.out; omega
            have hi1 : 8 * (j : Int) + 8 ≤ (xs.length : Int) := by omega
            have hi2 : 8 * (j : Int) < (xs.length : Int) := by omega
            have hi3 : 8 * (j : Int) + 8 ≤ (c : Int) := by omega
            have rs := hu.sub (j := 8 * j) (m := 8) hbw (by omega) (by omega)
            have ci := fun v W hv => spec_BitsToInt v ((xs.drop (8 * j)).take 8) W hv
            rw [b2i_eight HB.out h9] at ci
            have hq := bvN_lt (upTo_drop HB.out (8 * j)) 8 (by simp; omega)
            have HT := Lib.hid (b2bL_take xs j (by omega))
            obtain ⟨q, hq1⟩ : ∃ q, q = bvN (xs.drop (8 * j)) 8 := ⟨_, rfl⟩
            rw [← hq1] at ci hq HT
            have hq0 : q ≤ 255 := by omega
            have CI := Lib.hid ci
            clear ci hq1 hq
            go_wp2_with fail
            refine (CI.out _ _ rs).mono ?_
            rintro e w3 ⟨rfl, b3⟩
            have o3 := (hr.keep b3 (Nat.le_refl _)).top
            have b3' := below_next hbw b3
            have s3 := b3'.size
            have hl5 : ((b2bL xs).take j).length ≤ 1073741824 := by simp [b2bL_len]; omega
            clear hr hbw rs b3
            go_wp2_with (at_builtin; refine wpList_app _ rfl (.tmp 23) (.tmp 31) 31 rfl w.heap.size 5 .u8 1 Try.underlying31 info8 (by omega) _ _ ((b2bL xs).take j) [(q : Int)] rfl rfl (o3.alloc _) (rd_lit1 _ _ (by go_wf)) (by simp; omega) (by simp; omega) ?_)
            intro v4 w4 o4 b4
            have b4' := (b3'.alloc s3 _).trans b4
            clear o3 b3' b4
            go_wp2
            go_roundw
            case rel => exact ⟨j + 1, by omega, by go_num, by rw [HT.out]; exact o4, b4'⟩
            case measure => simp [intOf]; omega
          · have hke : xs.length / 8 ≤ j := by omega
            rw [List.take_of_length_le (by rw [b2bL_len]; exact hke)] at hr
            go_wp2
            go_ret2
            exact ⟨_, rfl, hr, hbw⟩
    · have hok : okB xs = false := by simp [okB, hl]
      rw [show b2b xs = [] from if_neg (by rw [hok]; simp), hok]
      obtain ⟨a, c, rfl⟩ := hu.shape
      have hl8 : ((xs.length : Int) % 8 != 0) = true := by simp; omega
      clear hb hok hl
      go_enter Try.func41, Try.ntmps41
      go_wp2_with fail
      refine (CB.out _ _ R0).mono ?_
      rintro e w1 ⟨rfl, b1⟩
      have o1 := (O0.keep b1 (by simp)).top
      have b1' := B0.trans (b1.mono (by simp))
      go_wp2_with fail
      go_ret2
      exact ⟨_, rfl, o1, b1'⟩
  · have hb' : upTo 1 xs = false := by simpa using hb
    have hok : okB xs = false := by simp [okB, hb']
    rw [show b2b xs = [] from if_neg (by rw [hok]; simp), hok]
    have cb := fun v W hv => spec_IsBitString v xs W hv
    rw [hb'] at cb
    have CB := Lib.hid cb
    clear cb hb' hb hok
    obtain ⟨a, c, rfl⟩ := hu.shape
    go_enter Try.func41, Try.ntmps41
    go_wp2_with fail
    refine (CB.out _ _ R0).mono ?_
    rintro e w1 ⟨rfl, b1⟩
    have o1 := (O0.keep b1 (by simp)).top
    have b1' := B0.trans (b1.mono (by simp))
    go_wp2_with fail
    go_ret2
    exact ⟨_, rfl, o1, b1'⟩
end Go.Proofs.Ytgaoiljedfogjaa

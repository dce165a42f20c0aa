/- Contracts of IsBitString, IsSymbolString, Weight and Parity (program and reference). -/
import Derived.Test.YtgaoiljedfogjaaProg
import Derived.Test.YtgaoiljedfogjaaBase
namespace Go.Proofs.Ytgaoiljedfogjaa
open Go.RowKit
set_option linter.unusedVariables false

/-- All elements lie between 0 and m. -/
def upTo (m : Int) (xs : List Int) : Bool := xs.all fun b => decide (0 ≤ b ∧ b ≤ m)
theorem upTo_nil (m : Int) : upTo m [] = true := rfl
theorem upTo_step {m x : Int} {xs : List Int} {k : Nat} (h : k < xs.length) (hx : xs.getD k 0 = x) (h0 : 0 ≤ x) (h1 : x ≤ m) (ht : upTo m (xs.take k) = true) : upTo m (xs.take (k + 1)) = true := by
  unfold upTo at *
  rw [take_getD h, List.all_append, ht, hx]
  simp [h0, h1]
theorem upTo_no {m x : Int} {xs : List Int} {k : Nat} (h : k < xs.length) (hx : xs.getD k 0 = x) (hn : ¬ (0 ≤ x ∧ x ≤ m)) : upTo m xs = false := by
  unfold upTo
  rw [List.all_eq_false]
  exact ⟨x, mem_getD h hx, by simpa using hn⟩
theorem upTo_mem {m x : Int} {xs : List Int} (h : upTo m xs = true) (hx : x ∈ xs) : 0 ≤ x ∧ x ≤ m := by
  unfold upTo at h
  simpa using List.all_eq_true.1 h x hx

/-- The number of elements that are 1. -/
def wt (xs : List Int) : Int := xs.foldl (fun n b => if b = 1 then n + 1 else n) 0
theorem wt_nil : wt [] = 0 := rfl
theorem wt_step {x : Int} {xs : List Int} {k : Nat} (h : k < xs.length) (hx : xs.getD k 0 = x) : wt (xs.take (k + 1)) = if x = 1 then wt (xs.take k) + 1 else wt (xs.take k) := foldl_take h hx
theorem wt_fold (xs : List Int) : ∀ n : Int, n ≤ xs.foldl (fun n b => if b = 1 then n + 1 else n) n ∧ xs.foldl (fun n b => if b = 1 then n + 1 else n) n ≤ n + xs.length := by
  induction xs with
  | nil => intro n; simp
  | cons a t ih =>
    intro n
    simp only [List.foldl_cons, List.length_cons]
    by_cases h : a = 1
    · have := ih (n + 1)
      rw [if_pos h]; omega
    · have := ih n
      rw [if_neg h]; omega
theorem wt_bd (xs : List Int) : 0 ≤ wt xs ∧ wt xs ≤ xs.length := by
  have := wt_fold xs 0
  unfold wt; omega

set_option maxHeartbeats 800000 in
theorem spec_IsBitString (u : Value) (xs : List Int) (w : World) (hu : Rd .i64 w u xs) :
    Calls Try.prog 50 #[u] w fun e w' => e = .returned (.bool (upTo 1 xs)) ∧ Below w.heap.size w w' := by
  have lx := hu.len_le
  rcases hu.parts with ⟨rfl, a, c, rfl⟩ | ⟨h0, b, off, c, rfl⟩
  · clear hu
    go_enter Try.func50, Try.ntmps50
    go_wp2
    go_rounds 1
    go_ret
    exact ⟨rfl, Below.refl _ _⟩
  · go_enter Try.func50, Try.ntmps50
    go_wp2
    go_loopw [3] (fun i wr => ∃ k : Nat, k ≤ xs.length ∧ i = .int .i64 k ∧ upTo 1 (xs.take k) = true ∧ Below w.heap.size w wr) (fun i _ => xs.length - (intOf i).toNat)
    case atStart => exact ⟨0, Nat.zero_le _, rfl, upTo_nil _, Below.refl _ _⟩
    case round =>
      obtain ⟨k, hk, rfl, ht, hbw⟩ := hrel
      have HT := Lib.hid ht
      clear ht
      by_cases hlt : k < xs.length
      · obtain ⟨x, hb, HX, g1, -, -⟩ := hu.elem64 hbw hlt
        by_cases hx : 0 ≤ x ∧ x ≤ 1
        · obtain ⟨x0, x1⟩ := hx
          go_wp2
          go_roundw
          case rel => exact ⟨k + 1, by omega, by go_num, upTo_step hlt HX.out (by omega) (by omega) HT.out, hbw⟩
          case measure => simp [intOf]; omega
        · have HN := Lib.hid (upTo_no hlt HX.out hx)
          rcases (show x < 0 ∨ 1 < x by omega) with hx1 | hx1
          · have n0 : decide (0 ≤ x) = false := by simp; omega
            clear hx
            go_wp2
            go_ret
            exact ⟨ret_bool HN.out.symm, hbw⟩
          · have n0 : 0 ≤ x := by omega
            have n1 : decide (x ≤ 1) = false := by simp; omega
            clear hx
            go_wp2
            go_ret
            exact ⟨ret_bool HN.out.symm, hbw⟩
      · go_wp2
        go_ret
        exact ⟨ret_bool (by rw [← HT.out, take_all hlt]), hbw⟩
set_option maxHeartbeats 800000 in
theorem impl_IsBitString (u : Value) (xs : List Int) (w : World) (hu : Rd .i64 w u xs) :
    Calls Try.prog 57 #[u] w fun e w' => e = .returned (.bool (upTo 1 xs)) ∧ Below w.heap.size w w' := by
  have lx := hu.len_le
  rcases hu.parts with ⟨rfl, a, c, rfl⟩ | ⟨h0, b, off, c, rfl⟩
  · clear hu
    go_enter Try.func57, Try.ntmps57
    go_wp2
    go_rounds 1
    go_ret
    exact ⟨rfl, Below.refl _ _⟩
  · go_enter Try.func57, Try.ntmps57
    go_wp2
    go_loopw [7] (fun i wr => ∃ k : Nat, k ≤ xs.length ∧ i = .int .i64 k ∧ upTo 1 (xs.take k) = true ∧ Below w.heap.size w wr) (fun i _ => xs.length - (intOf i).toNat)
    case atStart => exact ⟨0, Nat.zero_le _, rfl, upTo_nil _, Below.refl _ _⟩
    case round =>
      obtain ⟨k, hk, rfl, ht, hbw⟩ := hrel
      have HT := Lib.hid ht
      clear ht
      by_cases hlt : k < xs.length
      · obtain ⟨x, hb, HX, g1, -, -⟩ := hu.elem64 hbw hlt
        by_cases hx : 0 ≤ x ∧ x ≤ 1
        · obtain ⟨x0, x1⟩ := hx
          rcases (show x = 0 ∨ x = 1 by omega) with rfl | rfl
          all_goals
            go_wp2
            go_roundw
            case rel => exact ⟨k + 1, by omega, by go_num, upTo_step hlt HX.out (by omega) (by omega) HT.out, hbw⟩
            case measure => simp [intOf]; omega
        · have HN := Lib.hid (upTo_no hlt HX.out hx)
          have n0 : (x != 0) = true := by rw [bne_iff_ne]; omega
          have n1 : (x != 1) = true := by rw [bne_iff_ne]; omega
          clear hx
          go_wp2
          go_ret
          exact ⟨ret_bool HN.out.symm, hbw⟩
      · go_wp2
        go_ret
        exact ⟨ret_bool (by rw [← HT.out, take_all hlt]), hbw⟩
set_option maxHeartbeats 800000 in
theorem impl_Weight (u : Value) (xs : List Int) (w : World) (hu : Rd .i64 w u xs) :
    Calls Try.prog 52 #[u] w fun e w' => e = .returned (.int .i64 (wt xs)) ∧ Below w.heap.size w w' := by
  have lx := hu.len_le
  rcases hu.parts with ⟨rfl, a, c, rfl⟩ | ⟨h0, b, off, c, rfl⟩
  · clear hu
    go_enter Try.func52, Try.ntmps52
    go_wp2
    go_rounds 1
    go_ret
    exact ⟨rfl, Below.refl _ _⟩
  · go_enter Try.func52, Try.ntmps52
    go_wp2
    go_loopw [3, 8] (fun n i wr => ∃ k : Nat, k ≤ xs.length ∧ i = .int .i64 k ∧ n = .int .i64 (wt (xs.take k)) ∧ Below w.heap.size w wr) (fun _ i _ => xs.length - (intOf i).toNat)
    case atStart => exact ⟨0, Nat.zero_le _, rfl, rfl, Below.refl _ _⟩
    case round =>
      obtain ⟨k, hk, rfl, rfl, hbw⟩ := hrel
      have hbd := wt_bd (xs.take k)
      have hle : (xs.take k).length ≤ k := List.length_take_le _ _
      by_cases hlt : k < xs.length
      · obtain ⟨x, hb, HX, g1, -, -⟩ := hu.elem64 hbw hlt
        have HS := Lib.hid (wt_step hlt HX.out)
        obtain ⟨n, hn⟩ : ∃ n, n = wt (xs.take k) := ⟨_, rfl⟩
        rw [← hn] at hbd HS ⊢
        clear hn
        by_cases hx : x = 1
        · subst hx
          go_wp2
          go_roundw
          case rel => exact ⟨k + 1, by omega, by go_num, by rw [HS.out, if_pos rfl], hbw⟩
          case measure => simp [intOf]; omega
        · have hx1 : (x == 1) = false := by simpa using hx
          have HX1 := Lib.hid hx
          clear hx
          go_wp2
          go_roundw
          case rel => exact ⟨k + 1, by omega, by go_num, by rw [HS.out, if_neg HX1.out], hbw⟩
          case measure => simp [intOf]; omega
      · go_wp2
        go_ret
        exact ⟨ret_int (by rw [take_all hlt]), hbw⟩
theorem impl_Parity (u : Value) (xs : List Int) (w : World) (hu : Rd .i64 w u xs) :
    Calls Try.prog 54 #[u] w fun e w' => e = .returned (.int .i64 (wt xs % 2)) ∧ Below w.heap.size w w' := by
  have hbd := (wt_bd xs).1
  go_enter Try.func54, Try.ntmps54
  go_wp2_with (go_at_call 52; refine (impl_Weight _ _ _ hu).mono ?_; rintro e w' ⟨rfl, hb⟩)
  go_ret
  exact ⟨rfl, by assumption⟩
end Go.Proofs.Ytgaoiljedfogjaa

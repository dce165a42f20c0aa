/- Contracts of Hash and KeyedHash (program and reference). -/
import Derived.Test.YtdgffiaciccimaaCMod
import Derived.Test.YtdgffiaciccimaaCInfo
import Derived.Test.YtdgffiaciccimaaCApp
namespace Go.Proofs.Ytdgffiaciccimaa
open Go.RowKit
set_option linter.unusedVariables false

/-- One value, all values of the hash. -/
def hstep (d v : Int) : Int := (d * 1000003 + v % 2147483647 + 13) % 2147483647
def hsh (xs : List Int) : Int := xs.foldl hstep 11
theorem hstep_bd (d v : Int) : 0 ≤ hstep d v ∧ hstep d v < 2147483647 := by unfold hstep; omega
theorem hsh_fold (xs : List Int) : ∀ d, 0 ≤ d ∧ d < 2147483647 → 0 ≤ xs.foldl hstep d ∧ xs.foldl hstep d < 2147483647 := by
  induction xs with
  | nil => intro d h; exact h
  | cons a t ih => intro d _; exact ih _ (hstep_bd d a)
theorem hsh_bd (xs : List Int) : 0 ≤ hsh xs ∧ hsh xs < 2147483647 := hsh_fold xs 11 (by omega)
theorem hsh_step {x : Int} {xs : List Int} {k : Nat} (h : k < xs.length) (hx : xs.getD k 0 = x) : hsh (xs.take (k + 1)) = hstep (hsh (xs.take k)) x := foldl_take h hx

theorem spec_modM (p : Int) (w : World) (hp : -9223372036854775808 ≤ p ∧ p ≤ 9223372036854775807) :
    Calls Try.prog 36 #[.int .i64 p, .int .i64 2147483647] w fun e w' => e = .returned (.int .i64 (p % 2147483647)) ∧ w = w' := by
  have h := spec_Mod p 2147483647 w hp (by omega)
  rwa [modI_in (by omega) (by omega)] at h
set_option maxHeartbeats 800000 in
theorem spec_Hash (u : Value) (xs : List Int) (w : World) (hu : Rd .i64 w u xs) :
    Calls Try.prog 61 #[u] w fun e w' => e = .returned (.int .i64 (hsh xs)) ∧ Below w.heap.size w w' := by
  have lx := hu.len_le
  rcases hu.parts with ⟨rfl, a, c, rfl⟩ | ⟨h0, b, off, c, rfl⟩
  · clear hu
    go_enter Try.func61, Try.ntmps61
    go_wp2
    go_rounds 1
    go_ret
    exact ⟨rfl, Below.refl _ _⟩
  · go_enter Try.func61, Try.ntmps61
    go_wp2
    go_loop [3, 4] (fun r i => ∃ k : Nat, k ≤ xs.length ∧ i = .int .i64 k ∧ r = .int .i64 (hsh (xs.take k))) (fun _ i => xs.length - (intOf i).toNat)
    case atStart => exact ⟨0, Nat.zero_le _, rfl, rfl⟩
    case round =>
      obtain ⟨k, hk, rfl, rfl⟩ := hrel
      obtain ⟨q0, q1⟩ := hsh_bd (xs.take k)
      obtain ⟨d, hd⟩ : ∃ d, d = hsh (xs.take k) := ⟨_, rfl⟩
      have HD := Lib.hid hd
      rw [← hd] at q0 q1 ⊢
      clear hd
      by_cases hlt : k < xs.length
      · obtain ⟨x, hb, HX, g1, x0, x1⟩ := hu.elem64 (Below.refl _ _) hlt
        go_wp2_with (go_at_call 36; refine (spec_modM x _ ⟨x0, x1⟩).mono ?_; rintro e w' ⟨rfl, rfl⟩)
        go_round
        case rel => exact ⟨k + 1, by omega, by go_num, by rw [hsh_step hlt HX.out, ← HD.out]; rfl⟩
        case measure => simp [intOf]; omega
      · rw [take_all hlt] at HD
        go_wp2
        go_ret
        exact ⟨ret_int (by rw [← HD.out]), Below.refl _ _⟩
theorem impl_modM (p : Int) (w : World) (hp : -9223372036854775808 ≤ p ∧ p ≤ 9223372036854775807) :
    Calls Try.prog 44 #[.int .i64 p, .int .i64 2147483647] w fun e w' => e = .returned (.int .i64 (p % 2147483647)) ∧ w = w' := by
  have h := impl_Mod p 2147483647 w hp (by omega)
  rwa [modI_in (by omega) (by omega)] at h
set_option maxHeartbeats 800000 in
theorem impl_Hash (u : Value) (xs : List Int) (w : World) (hu : Rd .i64 w u xs) :
    Calls Try.prog 35 #[u] w fun e w' => e = .returned (.int .i64 (hsh xs)) ∧ Below w.heap.size w w' := by
  have lx := hu.len_le
  rcases hu.parts with ⟨rfl, a, c, rfl⟩ | ⟨h0, b, off, c, rfl⟩
  · clear hu
    go_enter Try.func35, Try.ntmps35
    go_wp2
    go_rounds 1
    go_ret
    exact ⟨rfl, Below.refl _ _⟩
  · go_enter Try.func35, Try.ntmps35
    go_wp2
    go_loop [3, 8] (fun r i => ∃ k : Nat, k ≤ xs.length ∧ i = .int .i64 k ∧ r = .int .i64 (hsh (xs.take k))) (fun _ i => xs.length - (intOf i).toNat)
    case atStart => exact ⟨0, Nat.zero_le _, rfl, rfl⟩
    case round =>
      obtain ⟨k, hk, rfl, rfl⟩ := hrel
      obtain ⟨q0, q1⟩ := hsh_bd (xs.take k)
      obtain ⟨d, hd⟩ : ∃ d, d = hsh (xs.take k) := ⟨_, rfl⟩
      have HD := Lib.hid hd
      rw [← hd] at q0 q1 ⊢
      clear hd
      by_cases hlt : k < xs.length
      · obtain ⟨x, hb, HX, g1, x0, x1⟩ := hu.elem64 (Below.refl _ _) hlt
        go_wp2_with (go_at_call 44; refine (impl_modM x _ ⟨x0, x1⟩).mono ?_; rintro e w' ⟨rfl, rfl⟩)
        go_round
        case rel => exact ⟨k + 1, by omega, by go_num, by rw [hsh_step hlt HX.out, ← HD.out]; rfl⟩
        case measure => simp [intOf]; omega
      · rw [take_all hlt] at HD
        go_wp2
        go_ret
        exact ⟨ret_int (by rw [← HD.out]), Below.refl _ _⟩
/-- The keyed hash. -/
def khsh (key : Int) (xs : List Int) : Int := hsh ([key] ++ xs ++ [key])
theorem khsh_bd (key : Int) (xs : List Int) : 0 ≤ khsh key xs ∧ khsh key xs < 2147483647 := hsh_bd _
set_option maxHeartbeats 800000 in
theorem impl_KeyedHash (key : Int) (u : Value) (xs : List Int) (w : World) (hk : -9223372036854775808 ≤ key ∧ key ≤ 9223372036854775807) (hu : Rd .i64 w u xs) (hn : xs.length ≤ 1073741824) :
    Calls Try.prog 34 #[.int .i64 key, u] w fun e w' => e = .returned (.int .i64 (khsh key xs)) ∧ Below w.heap.size w w' := by
  have hwk : (Lit.int .i64 key).wf = true := WalkArith.wf_i64 hk
  obtain ⟨i0, hi, hz0, hz1, hz2⟩ := info_parts info64
  obtain ⟨a, c, rfl⟩ := hu.shape
  go_enter Try.func34, Try.ntmps34
  go_wp2_with (at_make; refine wpList_make_own _ rfl _ _ 36 rfl w.heap.size 3 i0 (.int .i64 0) 1 Try.underlying36 hi hz0 hz1 _ _ _ (xs.length + 2) rfl rfl (by omega) ?b2 ?b3 (Nat.le_refl _) ?_)
  case b2 => rw [hz2]; omega
  case b3 => unfold maxLen; omega
  intro w1 hown0 hgrow0
  have b1 : Below w.heap.size w w1 := (Below.refl _ _).grown hgrow0 (Nat.le_refl _) (fun k h => by cases h)
  have o1 : Own .i64 3 w1 w.heap.size w1.heap.size (.slice (some ⟨w.heap.size, 0, none⟩) 0 (xs.length + 2)) [] := Own.of_row (xs := []) hown0 rfl rfl (by simp)
  have s1 := b1.size
  clear hown0 hgrow0
  have r1 := hu.keep b1
  go_wp2_with (at_builtin; refine wpList_app _ rfl (.tmp 10) (.tmp 12) 36 rfl w.heap.size 3 .i64 8 Try.underlying36 info64 (by omega) _ _ [] [key] rfl rfl (o1.alloc _) (rd_lit1 _ _ hwk) (by simp) (by simp; omega) ?_)
  intro v2 w2 o2 b2
  have b2' : Below w.heap.size w w2 := (b1.alloc s1 _).trans b2
  have s2 := b2'.size
  have r2 := hu.keep b2'
  clear o1 b1 b2 r1 s1
  go_wp2_with (at_builtin; refine wpList_app _ rfl (.tmp 14) (.tmp 15) 36 rfl w.heap.size 3 .i64 8 Try.underlying36 info64 (by omega) _ _ _ xs rfl rfl o2 r2 (by simp; omega) s2 ?_)
  intro v3 w3 o3 b3
  have b3' := b2'.trans b3
  have s3 := b3'.size
  clear o2 b2' b3 r2 s2
  go_wp2_with (at_builtin; refine wpList_app _ rfl (.tmp 17) (.tmp 19) 36 rfl w.heap.size 3 .i64 8 Try.underlying36 info64 (by omega) _ _ _ [key] rfl rfl (o3.alloc _) (rd_lit1 _ _ hwk) (by simp; omega) (by simp; omega) ?_)
  intro v4 w4 o4 b4
  have b4' := (b3'.alloc s3 _).trans b4
  clear o3 b3' b4
  go_wp2_with fail
  refine (impl_Hash _ _ _ o4.rd).mono ?_
  rintro e w5 ⟨rfl, b5⟩
  go_wp2_with fail
  go_ret
  exact ⟨rfl, below_next b4' b5⟩
set_option maxHeartbeats 800000 in
theorem spec_KeyedHash (key : Int) (u : Value) (xs : List Int) (w : World) (hk : -9223372036854775808 ≤ key ∧ key ≤ 9223372036854775807) (hu : Rd .i64 w u xs) (hn : xs.length ≤ 1073741824) :
    Calls Try.prog 40 #[.int .i64 key, u] w fun e w' => e = .returned (.int .i64 (khsh key xs)) ∧ Below w.heap.size w w' := by
  have hwk : (Lit.int .i64 key).wf = true := WalkArith.wf_i64 hk
  have b0 : Below w.heap.size w (w.alloc (.cells #[.int .i64 key] 3)) := (Below.refl _ _).alloc (Nat.le_refl _) _
  have r0 := hu.keep b0
  go_enter Try.func40, Try.ntmps40
  go_wp2_with (at_builtin; refine wpList_app _ rfl (.tmp 6) (.tmp 7) 36 rfl w.heap.size 3 .i64 8 Try.underlying36 info64 (by omega) _ _ [key] xs rfl rfl (own_lit1 _ _ (Nat.le_refl _) hwk) r0 (by simp; omega) (by simp) ?_)
  intro v2 w2 o2 b2
  have b2' : Below w.heap.size w w2 := b0.trans b2
  have s2 := b2'.size
  clear b0 b2 r0
  go_wp2_with (at_builtin; refine wpList_app _ rfl (.tmp 8) (.tmp 10) 36 rfl w.heap.size 3 .i64 8 Try.underlying36 info64 (by omega) _ _ _ [key] rfl rfl (o2.alloc _) (rd_lit1 _ _ hwk) (by simp; omega) (by simp; omega) ?_)
  intro v4 w4 o4 b4
  have b4' := (b2'.alloc s2 _).trans b4
  clear o2 b2' b4
  go_wp2_with fail
  refine (spec_Hash _ _ _ o4.rd).mono ?_
  rintro e w5 ⟨rfl, b5⟩
  go_wp2_with fail
  go_ret
  exact ⟨rfl, below_next b4' b5⟩
end Go.Proofs.Ytdgffiaciccimaa

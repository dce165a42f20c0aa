/- Contracts of HammingDistance (program and reference). -/
import Derived.Test.YtgaoiljedfogjaaCRun
namespace Go.Proofs.Ytgaoiljedfogjaa
open Go.RowKit
set_option linter.unusedVariables false

/-- The places among the first k at which two lists differ. -/
def hamN (xs ys : List Int) : Nat → Int
  | 0 => 0
  | k + 1 => if xs.getD k 0 = ys.getD k 0 then hamN xs ys k else hamN xs ys k + 1
theorem hamN_bd (xs ys : List Int) : ∀ k : Nat, 0 ≤ hamN xs ys k ∧ hamN xs ys k ≤ k
  | 0 => by simp [hamN]
  | k + 1 => by
    have := hamN_bd xs ys k
    rw [hamN]; split <;> omega
theorem val_eq {k : IntKind} {a b : Int} (h : a = b) : Value.int k a = Value.int k b := by rw [h]
def ham (xs ys : List Int) : Int := mxI xs.length ys.length - mnI xs.length ys.length + hamN xs ys (mnI xs.length ys.length).toNat
theorem mm_bd {a b : Nat} : 0 ≤ mnI (a : Int) b ∧ mnI (a : Int) b ≤ mxI (a : Int) b ∧ mnI (a : Int) b ≤ a ∧ mnI (a : Int) b ≤ b ∧ (mxI (a : Int) b ≤ a ∨ mxI (a : Int) b ≤ b) := by
  unfold mnI mxI; split <;> split <;> omega
theorem mn_eq {a b n : Nat} (h : (n : Int) = mnI (a : Int) b) : (n = a ∧ a ≤ b) ∨ (n = b ∧ b ≤ a) := by
  unfold mnI at h; split at h <;> omega

set_option maxHeartbeats 1600000 in
theorem impl_HammingDistance (u v : Value) (xs ys : List Int) (w : World) (hu : Rd .i64 w u xs) (hv : Rd .i64 w v ys) (hx : xs.length ≤ 1073741824) (hy : ys.length ≤ 1073741824) :
    Calls Try.prog 53 #[u, v] w fun e w' => e = .returned (.int .i64 (ham xs ys)) ∧ Below w.heap.size w w' := by
  obtain ⟨m0, m1, m2, m3, m4⟩ := @mm_bd xs.length ys.length
  have m5 : mxI (xs.length : Int) ys.length ≤ 1073741824 := by omega
  obtain ⟨s, hs⟩ := Int.eq_ofNat_of_zero_le m0
  have HA : Hid (ham xs ys = mxI xs.length ys.length - s + hamN xs ys s) := Lib.hid (by unfold ham; rw [hs]; rfl)
  have hmn := mn_eq hs.symm
  have HS := Lib.hid hs
  rw [hs] at m1 m2 m3
  obtain ⟨mx, hmx⟩ : ∃ mx, mx = mxI (xs.length : Int) ys.length := ⟨_, rfl⟩
  have HMX := Lib.hid hmx
  rw [← hmx] at m1 m5 HA
  clear hs hmx m4 m0
  have cMax := fun W => impl_Max (xs.length : Int) ys.length W
  have cMin := fun W => impl_Min (xs.length : Int) ys.length W
  rw [← HMX.out] at cMax
  rw [HS.out] at cMin
  have hmn' := Lib.hid hmn
  clear hmn
  have CMax := Lib.hid cMax
  have CMin := Lib.hid cMin
  clear cMax cMin
  rcases (show (s = 0 ∨ (0 < s ∧ 0 < xs.length ∧ 0 < ys.length)) by omega) with h0 | ⟨h0, h1, h2⟩
  · subst h0
    obtain ⟨a, c, rfl⟩ := hu.shape
    obtain ⟨a', c', rfl⟩ := hv.shape
    have hfin : mx - 0 = ham xs ys := by rw [HA.out]; simp [hamN]
    go_enter Try.func53, Try.ntmps53
    go_wp2_with (first | (go_at_call 76; refine (CMax.out _).mono ?_; rintro e w' ⟨rfl, rfl⟩) | (go_at_call 58; refine (CMin.out _).mono ?_; rintro e w' ⟨rfl, rfl⟩))
    go_rounds 1
    go_ret
    exact ⟨ret_int (by first | (rw [← hfin]; done) | (rw [← hfin]; simp; done) | (simpa using hfin)), Below.refl _ _⟩
  · rcases hu.parts with ⟨h3, -⟩ | ⟨h3, b, off, c, rfl⟩
    · simp [h3] at h1
    rcases hv.parts with ⟨h4, -⟩ | ⟨h4, b', off', c', rfl⟩
    · simp [h4] at h2
    clear h3 h4
    go_enter Try.func53, Try.ntmps53
    go_wp2_with (first | (go_at_call 76; refine (CMax.out _).mono ?_; rintro e w' ⟨rfl, rfl⟩) | (go_at_call 58; refine (CMin.out _).mono ?_; rintro e w' ⟨rfl, rfl⟩))
    go_loopw [6, 7] (fun d i wr => ∃ k : Nat, k ≤ s ∧ i = .int .i64 k ∧ d = .int .i64 (mx - s + hamN xs ys k) ∧ Below w.heap.size w wr) (fun _ i _ => s - (intOf i).toNat)
    case atStart => exact ⟨0, Nat.zero_le _, rfl, by simp [hamN], Below.refl _ _⟩
    case round =>
      obtain ⟨k, hk, rfl, rfl, hbw⟩ := hrel
      obtain ⟨q0, q1⟩ := hamN_bd xs ys k
      have HN : Hid (hamN xs ys (k + 1) = if xs.getD k 0 = ys.getD k 0 then hamN xs ys k else hamN xs ys k + 1) := Lib.hid rfl
      obtain ⟨d, hd⟩ : ∃ d, d = hamN xs ys k := ⟨_, rfl⟩
      have HD := Lib.hid hd
      rw [← hd] at q0 q1 HN ⊢
      clear hd
      by_cases hlt : k < s
      · obtain ⟨x, hb, HX, g1, -, -⟩ := hu.elem64 (j := k) hbw (by omega)
        obtain ⟨y, hb', HY, g2, -, -⟩ := hv.elem64 (j := k) hbw (by omega)
        rw [HX.out, HY.out] at HN
        have hkx : k < xs.length := by omega
        have hky : k < ys.length := by omega
        by_cases he : x = y
        · have hne : (x != y) = false := by simpa using he
          have HE := Lib.hid he
          clear he
          go_wp2
          go_region
          all_goals go_wp2
          all_goals
            go_roundw
            case rel => exact ⟨k + 1, by omega, by go_num, by rw [HN.out, if_pos HE.out], hbw.drew⟩
            case measure => simp [intOf]; omega
        · have hne : (x != y) = true := by simpa using he
          have HE := Lib.hid he
          clear he
          go_wp2
          go_region
          all_goals go_wp2
          all_goals
            go_roundw
            case rel => exact ⟨k + 1, by omega, by go_num, val_eq (by rw [HN.out, if_neg HE.out]; omega), hbw.drew⟩
            case measure => simp [intOf]; omega
      · have he : k = s := by omega
        subst he
        go_wp2
        all_goals
          go_ret
          exact ⟨ret_int (by rw [HA.out, HD.out]), hbw⟩
end Go.Proofs.Ytgaoiljedfogjaa

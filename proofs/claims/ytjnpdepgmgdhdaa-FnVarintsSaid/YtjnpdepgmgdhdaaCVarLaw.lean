/- The plain law of the varints: what is encoded is decoded, and what is decoded is the encoding of its integer. -/
import Derived.Test.YtjnpdepgmgdhdaaCRb
import Derived.Test.YtjnpdepgmgdhdaaCEnc
import Derived.Test.YtjnpdepgmgdhdaaCDi
namespace Go.Proofs.Ytjnpdepgmgdhdaa
open Go.RowKit
set_option linter.unusedVariables false
theorem getD_mid (p : List Int) (x : Int) (t : List Int) : (p ++ x :: t).getD p.length 0 = x := by
  simp [List.getD_eq_getElem?_getD]
theorem pow7 (k : Nat) : 2 ^ (7 * (k + 1)) = 128 * 2 ^ (7 * k) := by
  rw [show 7 * (k + 1) = 7 * k + 7 by omega, Nat.pow_add, Nat.mul_comm]
theorem acc_add (a W m : Nat) : a + m % 128 * W + m / 128 * (128 * W) = a + m * W := by
  rw [Nat.add_assoc, ← Nat.mul_assoc, ← Nat.add_mul, show m % 128 + m / 128 * 128 = m by omega]
theorem ru_at (o : Nat) : ∀ (f m k : Nat) (p t : List Int), p.length = o + k → m < 2 ^ (7 * (f + 1)) → (0 < k → 0 < m) → accN (p ++ (uvF f m ++ t)) o k + m * 2 ^ (7 * k) ≤ 1000000000000 →
    ruL (p ++ (uvF f m ++ t)) o (f + 1) k = (((accN (p ++ (uvF f m ++ t)) o k + m * 2 ^ (7 * k) : Nat) : Int), ((o + k + (uvF f m).length : Nat) : Int), true) := by
  intro f
  induction f with
  | zero =>
    intro m k p t hp hm hk ha
    have h128 : m < 128 := by simpa using hm
    rw [uvF_small h128] at ha ⊢
    have hx : (p ++ ([(m : Int)] ++ t)).getD (o + k) 0 = (m : Int) := by rw [← hp]; exact getD_mid p _ t
    have hac : accN (p ++ ([(m : Int)] ++ t)) o (k + 1) = accN (p ++ ([(m : Int)] ++ t)) o k + m * 2 ^ (7 * k) := by
      rw [accN, hx, Int.toNat_natCast, Nat.mod_eq_of_lt h128]
    rw [ruL_ok (by simp; omega) hx (by omega) (by rw [hac]; rintro (⟨h1, h2⟩ | h2); have := hk h1; omega; omega), hac]
    rfl
  | succ f ih =>
    intro m k p t hp hm hk ha
    by_cases h128 : m < 128
    · rw [uvF_small h128] at ha ⊢
      have hx : (p ++ ([(m : Int)] ++ t)).getD (o + k) 0 = (m : Int) := by rw [← hp]; exact getD_mid p _ t
      have hac : accN (p ++ ([(m : Int)] ++ t)) o (k + 1) = accN (p ++ ([(m : Int)] ++ t)) o k + m * 2 ^ (7 * k) := by
        rw [accN, hx, Int.toNat_natCast, Nat.mod_eq_of_lt h128]
      rw [ruL_ok (by simp; omega) hx (by omega) (by rw [hac]; rintro (⟨h1, h2⟩ | h2); have := hk h1; omega; omega), hac]
      rfl
    · rw [uvF_big h128] at ha ⊢
      have e : p ++ (((m % 128 + 128 : Nat) : Int) :: uvF f (m / 128) ++ t) = (p ++ [((m % 128 + 128 : Nat) : Int)]) ++ (uvF f (m / 128) ++ t) := by simp
      have hx : (p ++ (((m % 128 + 128 : Nat) : Int) :: uvF f (m / 128) ++ t)).getD (o + k) 0 = ((m % 128 + 128 : Nat) : Int) := by rw [← hp]; exact getD_mid p _ _
      have hac : accN (p ++ (((m % 128 + 128 : Nat) : Int) :: uvF f (m / 128) ++ t)) o (k + 1) = accN (p ++ (((m % 128 + 128 : Nat) : Int) :: uvF f (m / 128) ++ t)) o k + m % 128 * 2 ^ (7 * k) := by
        rw [accN, hx, Int.toNat_natCast]
        congr 2
        omega
      have hsum : accN (p ++ (((m % 128 + 128 : Nat) : Int) :: uvF f (m / 128) ++ t)) o (k + 1) + m / 128 * 2 ^ (7 * (k + 1)) = accN (p ++ (((m % 128 + 128 : Nat) : Int) :: uvF f (m / 128) ++ t)) o k + m * 2 ^ (7 * k) := by
        rw [hac, pow7, acc_add]
      rw [ruL_next (by simp; omega) hx (by omega), ← hsum]
      rw [← hsum] at ha
      rw [e] at ha ⊢
      have hm' : m < 128 * 2 ^ (7 * (f + 1)) := by rw [← pow7]; exact hm
      rw [ih (m / 128) (k + 1) (p ++ [((m % 128 + 128 : Nat) : Int)]) t (by simp; omega) (Nat.div_lt_of_lt_mul hm') (by omega) ha]
      congr 2
      simp
      omega
theorem ru_uv {n : Nat} (b t : List Int) (hn : n ≤ 1000000000000) : ru (b ++ (uv n ++ t)) (b.length : Int) = ((n : Int), ((b.length + (uv n).length : Nat) : Int), true) := by
  have h := ru_at b.length 5 n 0 b t (by omega) (by simp; omega) (by omega) (by simp [accN]; omega)
  unfold ru
  rw [if_neg (by omega), Int.toNat_natCast]
  unfold uv
  rw [h]
  simp [accN]
theorem take_cons_drop {ys : List Int} {a X : Nat} (ha : a < ys.length) (hX : a < X) : (ys.drop a).take (X - a) = ys.getD a 0 :: (ys.drop (a + 1)).take (X - (a + 1)) := by
  rw [List.drop_eq_getElem_cons ha, show X - a = (X - (a + 1)) + 1 by omega, List.take_succ_cons]
  congr 1
  rw [List.getD_eq_getElem?_getD, List.getElem?_eq_getElem ha]
  rfl
theorem ru_back {ys : List Int} {o : Nat} (hw : ∀ n ∈ ys, (Lit.int .u8 n).wf = true) {N X : Nat} : ∀ (f k : Nat), ruL ys o (f + 1) k = ((N : Int), (X : Int), true) →
    ∃ m, N = accN ys o k + m * 2 ^ (7 * k) ∧ (0 < k → 0 < m) ∧ o + k < X ∧ uvF f m = (ys.drop (o + k)).take (X - (o + k)) := by
  intro f
  induction f with
  | zero =>
    intro k h
    by_cases hl : ys.length ≤ o + k
    · rw [ruL_out hl] at h; simp at h
    obtain ⟨c, hc⟩ : ∃ c, ys.getD (o + k) 0 = c := ⟨_, rfl⟩
    have hb := bounds_u8 (hw c (mem_getD (by omega) hc))
    by_cases h128 : c < 128
    · by_cases hbad : (0 < k ∧ c = 0) ∨ 1000000000000 < accN ys o (k + 1)
      · rw [ruL_bad (by omega) hc h128 hbad] at h; simp at h
      · rw [ruL_ok (by omega) hc h128 hbad] at h
        simp only [Prod.mk.injEq, and_true] at h
        obtain ⟨h1, h2⟩ := h
        have hX : X = o + k + 1 := by omega
        subst hX
        refine ⟨c.toNat, ?_, by omega, by omega, ?_⟩
        · have : N = accN ys o (k + 1) := by omega
          rw [this, accN, hc, Nat.mod_eq_of_lt (by omega)]
        · rw [uvF_small (by omega), take_cons_drop (by omega) (by omega), hc]
          simp; omega
    · rw [ruL_next (by omega) hc (by omega)] at h
      simp [ruL] at h
  | succ f ih =>
    intro k h
    by_cases hl : ys.length ≤ o + k
    · rw [ruL_out hl] at h; simp at h
    obtain ⟨c, hc⟩ : ∃ c, ys.getD (o + k) 0 = c := ⟨_, rfl⟩
    have hb := bounds_u8 (hw c (mem_getD (by omega) hc))
    by_cases h128 : c < 128
    · by_cases hbad : (0 < k ∧ c = 0) ∨ 1000000000000 < accN ys o (k + 1)
      · rw [ruL_bad (by omega) hc h128 hbad] at h; simp at h
      · rw [ruL_ok (by omega) hc h128 hbad] at h
        simp only [Prod.mk.injEq, and_true] at h
        obtain ⟨h1, h2⟩ := h
        have hX : X = o + k + 1 := by omega
        subst hX
        refine ⟨c.toNat, ?_, by omega, by omega, ?_⟩
        · have : N = accN ys o (k + 1) := by omega
          rw [this, accN, hc, Nat.mod_eq_of_lt (by omega)]
        · rw [uvF_small (by omega), take_cons_drop (by omega) (by omega), hc]
          simp; omega
    · rw [ruL_next (by omega) hc (by omega)] at h
      obtain ⟨m', h1, h2, h3, h4⟩ := ih (k + 1) h
      have hm' := h2 (by omega)
      have hdiv : (c.toNat % 128 + 128 * m') / 128 = m' := by omega
      have hmod : (c.toNat % 128 + 128 * m') % 128 + 128 = c.toNat := by omega
      refine ⟨c.toNat % 128 + 128 * m', ?_, by omega, by omega, ?_⟩
      · rw [h1, accN, hc, pow7, Nat.add_mul, Nat.add_assoc, ← Nat.mul_assoc m', Nat.mul_comm m' 128]
      · rw [show o + (k + 1) = o + k + 1 by omega] at h4
        rw [uvF_big (by omega), hdiv, hmod, take_cons_drop (by omega) (by omega), hc, h4, Int.toNat_of_nonneg hb.1]
theorem ru_canon {ys : List Int} {o : Int} {n x : Nat} (hw : ∀ v ∈ ys, (Lit.int .u8 v).wf = true) (h : ru ys o = ((n : Int), (x : Int), true)) : uv n = (ys.drop o.toNat).take (x - o.toNat) := by
  unfold ru at h
  split at h
  · simp at h
  · obtain ⟨m, h1, _, _, h4⟩ := ru_back hw 5 0 h
    have : n = m := by simpa [accN] using h1
    rw [this]
    exact h4
/-- The varints of a list. -/
def encF (l : List Int) : List Int := l.flatMap fun v => uv v.toNat
theorem auv_in {xs : List Int} {n : Int} (h : 0 ≤ n ∧ n ≤ 1000000000000) : auv xs n = xs ++ uv n.toNat := if_pos h
theorem enc_eq : ∀ (l acc : List Int), (∀ v ∈ l, 0 ≤ v ∧ v ≤ 1000000000000) → l.foldl auv acc = acc ++ encF l
  | [], acc, _ => by simp [encF]
  | v :: t, acc, h => by
    rw [List.foldl_cons, auv_in (h v (by simp)), enc_eq t _ (fun y hy => h y (by simp [hy]))]
    simp [encF]
theorem diL_enc : ∀ (l p acc : List Int), (∀ v ∈ l, 0 ≤ v ∧ v ≤ 1000000000000) → diL (p ++ encF l) l.length (p.length : Int) acc = (acc ++ l, ((p ++ encF l).length : Int), true)
  | [], p, acc, _ => by simp [diL, encF]
  | v :: t, p, acc, h => by
    have hv := h v (by simp)
    have e : encF (v :: t) = uv v.toNat ++ encF t := by simp [encF]
    have e2 : p ++ (uv v.toNat ++ encF t) = (p ++ uv v.toNat) ++ encF t := by simp
    rw [e, List.length_cons, diL_yes (ru_uv (n := v.toNat) p (encF t) (by omega)), e2, ← List.length_append, diL_enc t (p ++ uv v.toNat) _ (fun y hy => h y (by simp [hy])), Int.toNat_of_nonneg hv.1]
    simp
theorem diL_more : ∀ (l p acc : List Int), (∀ v ∈ l, 0 ≤ v ∧ v ≤ 1000000000000) → diL (p ++ encF l) (l.length + 1) (p.length : Int) acc = ([], 0, false)
  | [], p, acc, _ => by
    refine diL_no ?_
    unfold ru
    rw [if_neg (by omega)]
    exact ruL_out (by simp [encF])
  | v :: t, p, acc, h => by
    have hv := h v (by simp)
    have e : encF (v :: t) = uv v.toNat ++ encF t := by simp [encF]
    have e2 : p ++ (uv v.toNat ++ encF t) = (p ++ uv v.toNat) ++ encF t := by simp
    rw [e, List.length_cons, diL_yes (ru_uv (n := v.toNat) p (encF t) (by omega)), e2, ← List.length_append, diL_more t (p ++ uv v.toNat) _ (fun y hy => h y (by simp [hy]))]
theorem di_enc {l : List Int} (h : ∀ v ∈ l, 0 ≤ v ∧ v ≤ 1000000000000) (hl : l.length ≤ 99) : di (encL l) 0 (l.length : Int) = (l, ((encL l).length : Int), true) ∧ di (encL l) 0 ((l.length : Int) + 1) = ([], 0, false) := by
  have e : encL l = encF l := by unfold encL; rw [enc_eq l [] h]; simp
  rw [e]
  unfold di
  rw [if_pos ⟨by omega, by omega, by omega⟩, if_pos ⟨by omega, by omega, by omega⟩]
  have h1 := diL_enc l [] [] h
  have h2 := diL_more l [] [] h
  refine ⟨?_, ?_⟩
  · simpa using h1
  · rw [show ((l.length : Int) + 1).toNat = l.length + 1 by omega]
    simpa using h2
/-- Byte strings are decoded. -/
theorem appB_eq {b d : List Int} (h : d.length ≤ 1000000000000) : appB b d = b ++ (uv d.length ++ d) := by
  unfold appB
  rw [auv_in (by omega), Int.toNat_natCast, List.append_assoc]
theorem rb_app {b d : List Int} (h : d.length ≤ 1000000000000) : rbO (appB b d) b.length d.length = true ∧ rbL (appB b d) b.length d.length = d ∧ rbN (appB b d) b.length d.length = ((appB b d).length : Int) ∧ rbO (appB b d) b.length ((d.length : Int) - 1) = false := by
  have hr := ru_uv (n := d.length) b d h
  have hl : (appB b d).length = b.length + (uv d.length).length + d.length := by rw [appB_eq h]; simp; omega
  rw [← appB_eq h] at hr
  have h1 : rbO (appB b d) b.length d.length = true := by
    unfold rbO
    rw [hr, hl]
    simp; omega
  refine ⟨h1, ?_, ?_, ?_⟩
  · unfold rbL
    rw [if_pos h1, hr]
    simp only [Int.toNat_natCast]
    rw [appB_eq h, ← List.append_assoc, ← List.length_append, List.drop_left, List.take_length]
  · unfold rbN
    rw [if_pos h1, hr, hl]
    simp
  · unfold rbO
    rw [hr]
    simp
    omega
end Go.Proofs.Ytjnpdepgmgdhdaa

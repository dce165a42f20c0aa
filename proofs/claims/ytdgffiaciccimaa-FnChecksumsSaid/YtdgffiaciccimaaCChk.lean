/- Contracts of CheckCrc (program and reference). -/
import Derived.Test.YtdgffiaciccimaaCCopy
import Derived.Test.YtdgffiaciccimaaCEqual
import Derived.Test.YtdgffiaciccimaaCB2b
import Derived.Deep.QuietTactic
import Derived.BigQuiet
namespace Go.Proofs.Ytdgffiaciccimaa
open Go.RowKit
set_option linter.unusedVariables false

theorem quiet_left {P : Program} {f : FuncId} {args : Array Value} {w : World} {n : Nat} {v : Value}
    (h : Calls P f args (w.drewN n) fun e w' => e = .returned v ∧ w.drewN n = w') : Calls P f args (w.drewN n) fun e w'' => e = .returned v ∧ ∃ m, w'' = w.drewN m :=
  h.mono fun _ _ ⟨he, hm⟩ => ⟨he, n, hm.symm⟩
theorem Rd.drewN {k : IntKind} {w : World} {v : Value} {xs : List Int} (h : Rd k w v xs) (n : Nat) : Rd k (w.drewN n) v xs := h

/-- Does the frame end with the checksum of what stands before? -/
def okC (xs : List Int) : Bool := decide (2 ≤ xs.length ∧ appCrc (xs.take (xs.length - 2)) = xs)
def chk (xs : List Int) : List Int := if okC xs = true then xs.take (xs.length - 2) else []
theorem chk_len (xs : List Int) : (chk xs).length ≤ xs.length := by
  unfold chk; split
  · simp
  · simp
theorem appCrc_len (xs : List Int) : (appCrc xs).length = xs.length + 2 := by simp [appCrc]
/-- The first m elements of a slice, however few. -/
theorem Rd.pre {k : IntKind} {w wr : World} {b off n c m : Nat} {xs : List Int} (h : Rd k w (.slice (some ⟨b, off, none⟩) n c) xs) (hb : Below w.heap.size w wr) (hm : m ≤ xs.length) (hc : c ≤ maxLen) :
    Rd k wr (.slice (some ⟨b, off, none⟩) m c) (xs.take m) := by
  rcases Nat.eq_zero_or_pos m with rfl | h0
  · exact ⟨by simp, .inl ⟨by simp, _, c, rfl, hc, fun h => by cases h⟩⟩
  · have := h.sub (j := 0) (m := m) hb h0 (by omega)
    simpa using this
theorem okC_iff {xs : List Int} {m : Nat} {x y : Int} (hl : xs.length = m + 2) (hx : xs.getD m 0 = x) (hy : xs.getD (m + 1) 0 = y) (h1 : 0 ≤ x ∧ x ≤ 255) (h2 : 0 ≤ y ∧ y ≤ 255) :
    okC xs = decide (x + y * 256 = ((crc (xs.take m) : Nat) : Int)) := by
  have e : xs = xs.take m ++ [x, y] := by
    have h3 := take_getD (xs := xs) (k := m) (by omega)
    have h4 := take_getD (xs := xs) (k := m + 1) (by omega)
    rw [take_all (by omega)] at h4
    rw [h3, hx, hy] at h4
    rw [List.append_assoc] at h4
    exact h4
  unfold okC
  rw [show xs.length - 2 = m by omega]
  apply decide_eq_decide.2
  generalize hc : crc (xs.take m) = c
  constructor
  · rintro ⟨_, h⟩
    rw [appCrc, hc] at h
    conv at h => rhs; rw [e]
    have h5 := List.append_cancel_left h
    simp only [List.cons.injEq, and_true] at h5
    omega
  · intro h
    refine ⟨by omega, ?_⟩
    rw [appCrc, hc]
    conv => rhs; rw [e]
    congr 1
    simp only [List.cons.injEq, and_true]
    omega

set_option maxHeartbeats 1600000 in
theorem impl_CheckCrc (u : Value) (xs : List Int) (w : World) (hu : Rd .u8 w u xs) (hn : xs.length ≤ 1073741824) :
    Calls Try.prog 23 #[u] w (FreshT .u8 5 (chk xs) [.bool (okC xs)] w) := by
  by_cases h2 : 2 ≤ xs.length
  · rcases hu.parts with ⟨h0, -⟩ | ⟨h0, b, off, c, rfl⟩
    · rw [h0] at h2; simp at h2
    obtain ⟨hc1, hc2⟩ := hu.cap h0
    have hd : okC xs = decide (appCrc (xs.take (xs.length - 2)) = xs) := by
      unfold okC; exact decide_eq_decide.2 ⟨fun z => z.2, fun z => ⟨h2, z⟩⟩
    have HD := Lib.hid hd
    have h2i : (2 : Int) ≤ (xs.length : Int) := by omega
    have hci : (xs.length : Int) - 2 ≤ (c : Int) := by omega
    have hs0 : (0 : Int) ≤ (xs.length : Int) - 2 := by omega
    have r0 := hu.pre (m := xs.length - 2) (Below.refl _ _) (by omega) (by unfold maxLen; omega)
    obtain ⟨zs, hz⟩ : ∃ zs, zs = xs.take (xs.length - 2) := ⟨_, rfl⟩
    have hzl : zs.length ≤ 1073741824 := by rw [hz]; simp; omega
    rw [← hz] at r0 HD
    have HZ := Lib.hid hz
    clear hz hd
    go_enter Try.func23, Try.ntmps23
    go_wp2_with fail
    refine (impl_copyBytes _ _ _ r0 hzl).mono ?_
    rintro e w1 ⟨v1, rfl, o1, b1⟩
    have r1 := hu.keep b1
    have s1 := b1.size
    go_wp2_with fail
    refine (impl_AppendCrc _ _ _ o1.rd hzl).mono ?_
    rintro e w2 ⟨v2, rfl, o2, b2⟩
    have b2' := below_next b1 b2
    have r2 := hu.keep b2'
    replace o1 := (o1.keep b2 (Nat.le_refl _)).top
    clear b1 b2 r1 s1
    have s2 := b2'.size
    have ce := fun W (h : Rd .u8 W v2 (appCrc zs)) (k : Rd .u8 W (.slice (some ⟨b, off, none⟩) xs.length c) xs) => impl_EqualBytes v2 _ (appCrc zs) xs W h k
    rw [← HD.out] at ce
    go_wp2_with fail
    refine (ce _ o2.rd r2).mono ?_
    rintro e w3 ⟨rfl, b3⟩
    have b3' := below_next b2' b3
    replace o1 := (o1.keep b3 (Nat.le_refl _)).top
    have s3 := b3'.size
    clear ce r2 b3 b2' o2
    by_cases hok : okC xs = true
    · have hch : chk xs = zs := by rw [chk, if_pos hok, HZ.out]
      rw [hok]
      have HC := Lib.hid hch
      have HOK := Lib.hid hok
      clear hch hok
      go_wp2_with fail
      go_ret2
      exact ⟨_, by rw [HOK.out]; rfl, by rw [HC.out]; exact o1, b3'⟩
    · have hok' : okC xs = false := by simpa using hok
      have hch : chk xs = [] := if_neg hok
      rw [hok']
      have HC := Lib.hid hch
      have HOK := Lib.hid hok'
      clear hch hok hok'
      go_wp2_with fail
      go_ret2
      exact ⟨_, by rw [HOK.out]; rfl, by rw [HC.out]; exact (own_lit0 w3 s3).top, b3'.alloc s3 _⟩
  · have hok : okC xs = false := by unfold okC; exact decide_eq_false (fun z => h2 z.1)
    have hch : chk xs = [] := if_neg (by rw [hok]; simp)
    rw [hok, hch]
    obtain ⟨a, c, rfl⟩ := hu.shape
    have h2i : (xs.length : Int) < 2 := by omega
    clear h2 hok hch
    go_enter Try.func23, Try.ntmps23
    go_wp2_with fail
    go_ret2
    exact ⟨_, rfl, (own_lit0 w (Nat.le_refl _)).top, (Below.refl _ _).alloc (Nat.le_refl _) _⟩
end Go.Proofs.Ytdgffiaciccimaa

/- The contract of the reference's EqualBytes, which compares two strings. -/
import Derived.Test.YtgeodanhjglkhaaProg
import Derived.Test.YtgeodanhjglkhaaBase
import Derived.Laws.BytesArg
namespace Go.Proofs.Ytgeodanhjglkhaa
open Go.RowKit
set_option linter.unusedVariables false

theorem conv_str {P : Program} (w : World) {src e dst : TypeId} (hs : P.underlying src = some (.slice e)) (he : P.underlying e = some (.int .u8)) (hd : P.underlying dst = some .string) {v : Value} {xs : List Int} (h : Rd .u8 w v xs) :
    (convert src dst v).run P w = .ok (.string (strOfNums xs)) w := by
  rcases h.2 with ⟨rfl, a, c, rfl, _⟩ | ⟨h0, b, off, c, rfl, _, _, hc⟩
  · cases a with
    | none =>
      rw [run_convert_bytes_string w src dst e _ 0 c hs he hd]
      simp [Conv.bytesToString, Sem.run_pure]
      rfl
    | some ad =>
      have hl : (loadCells ad 0).run P w = .ok (([] : List Int).map (Value.int .u8)).toArray w := by
        have := run_loadCells_list (P := P) w ad [] (by simp)
        simpa using this
      rw [run_convert_bytes_string w src dst e _ 0 c hs he hd, run_bytesToString w _ 0 c [] hl]
      rfl
  · exact run_convert_bytes_arg w src e hs he b off xs.length c xs rfl hc dst hd

theorem strOfNums_inj {xs ys : List Int} (hx : ∀ n ∈ xs, (Lit.int .u8 n).wf = true) (hy : ∀ n ∈ ys, (Lit.int .u8 n).wf = true) (h : strOfNums xs = strOfNums ys) : xs = ys := by
  have h1 : (xs.map fun n : Int => UInt8.ofNat n.toNat) = ys.map fun n : Int => UInt8.ofNat n.toNat := by
    rw [← strOfNums_data, ← strOfNums_data, h]
  clear h
  induction xs generalizing ys with
  | nil => cases ys with | nil => rfl | cons b t => simp at h1
  | cons a s ih =>
    cases ys with
    | nil => simp at h1
    | cons b t =>
      simp only [List.map_cons, List.cons.injEq] at h1
      have ha := bounds_u8 (hx a (by simp))
      have hb := bounds_u8 (hy b (by simp))
      have e1 : a.toNat = b.toNat := by
        have := congrArg UInt8.toNat h1.1
        rw [UInt8.toNat_ofNat', UInt8.toNat_ofNat'] at this
        omega
      have e2 : a = b := by omega
      rw [e2, ih (fun n hn => hx n (by simp [hn])) (fun n hn => hy n (by simp [hn])) h1.2]

theorem spec_EqualBytes (u v : Value) (xs ys : List Int) (w : World) (hu : Rd .u8 w u xs) (hv : Rd .u8 w v ys) :
    Calls Try.prog 15 #[u, v] w fun e w' => e = .returned (.bool (decide (xs = ys))) ∧ Below w.heap.size w w' := by
  have c1 := conv_str (P := Try.prog) w (src := 22) (dst := 9) Try.underlying22 Try.underlying5 Try.underlying9 hu
  have c2 := conv_str (P := Try.prog) w (src := 22) (dst := 9) Try.underlying22 Try.underlying5 Try.underlying9 hv
  by_cases h : xs = ys
  · subst h
    obtain ⟨s, hs⟩ : ∃ s, s = strOfNums xs := ⟨_, rfl⟩
    rw [← hs] at c1 c2
    rw [decide_eq_true rfl]
    clear hs hu hv
    go_enter Try.func15, Try.ntmps15
    go_wp2
    go_ret
    exact ⟨by simp, Below.refl _ _⟩
  · have hne : strOfNums xs ≠ strOfNums ys := fun h1 => h (strOfNums_inj hu.wf hv.wf h1)
    rw [decide_eq_false h]
    obtain ⟨s, hs⟩ : ∃ s, s = strOfNums xs := ⟨_, rfl⟩
    obtain ⟨t, ht⟩ : ∃ t, t = strOfNums ys := ⟨_, rfl⟩
    rw [← hs, ← ht] at hne
    rw [← hs] at c1
    rw [← ht] at c2
    have HN := Lib.hid hne
    clear hs ht hu hv h hne
    go_enter Try.func15, Try.ntmps15
    go_wp2
    go_ret
    have hl : ¬ s.toList = t.toList := fun h => HN.out (by
      rw [ByteArray.toList_eq, ByteArray.toList_eq] at h
      exact Go.WideShapes.bytes_inj h)
    exact ⟨by simpa using hl, Below.refl _ _⟩
end Go.Proofs.Ytgeodanhjglkhaa

/- The contract of the reference's FormatInt. -/
import Derived.Test.YtpmilkemimlmcaaDoorProg
import Derived.Test.YtpmilkemimlmcaaDoorCLit
import Derived.Test.YtpmilkemimlmcaaDoorCInfo
import Derived.Test.YtpmilkemimlmcaaDoorCDec
import Derived.Laws.IdiomStrings
import Derived.Laws.Concat
import Derived.Lib.ItoaLen
namespace Go.Proofs.YtpmilkemimlmcaaDoor
open Go.RowKit
open Go.Lib (itoa decDigits decDigits_length nDigits_le20)
set_option linter.unusedVariables false

theorem tmod10_nat (m : Nat) : ((m : Int)).tmod 10 = ((m % 10 : Nat) : Int) := by rw [Int.tmod_eq_emod_of_nonneg (by omega)]; omega
theorem tdiv10_nat (m : Nat) : ((m : Int)).tdiv 10 = ((m / 10 : Nat) : Int) := by rw [Int.tdiv_eq_ediv_of_nonneg (by omega)]; omega
theorem tmod10_neg (m : Nat) : (-(m : Int)).tmod 10 = -((m % 10 : Nat) : Int) := by rw [Int.neg_tmod, tmod10_nat]
theorem tdiv10_neg (m : Nat) : (-(m : Int)).tdiv 10 = -((m / 10 : Nat) : Int) := by rw [Int.neg_tdiv, tdiv10_nat]
theorem dd_len {m : Nat} (h : m ≤ 9223372036854775808) : (dd m).length ≤ 21 := by
  unfold dd
  split
  · simp
  · rw [decDigits_length]; have := nDigits_le20 m (by omega); omega
/-- string of one byte, in a new block. -/
theorem cell_one (w : World) (x : Int) (E : TypeId) : (w.alloc (.cells #[.int .u8 x] E)).cell? ⟨w.heap.size, 0, none⟩ = some (.int .u8 x) := by
  have h : (w.alloc (.cells #[.int .u8 x] E)).heap[w.heap.size]? = some (.cells #[.int .u8 x] E) := by
    show (w.heap.push (.cells #[.int .u8 x] E))[w.heap.size]? = _
    simp
  unfold World.cell?
  rw [h]
  rfl

theorem str_one (w : World) (d : Nat) (hd : d < 10) :
    ∃ C : ByteArray, C.data.toList = [UInt8.ofNat (48 + d)] ∧ C.size ≤ 1 ∧ (convert 24 9 (.slice (some ⟨w.heap.size, 0, none⟩) 1 1)).run Tryd.prog (w.alloc (.cells #[.int .u8 (48 + (d : Int))] 5)) = .ok (.string C) (w.alloc (.cells #[.int .u8 (48 + (d : Int))] 5)) := by
  refine ⟨⟨[UInt8.ofNat (48 + d)].toArray⟩, rfl, Nat.le_refl 1, ?_⟩
  refine run_convert_bytes_back (P := Tryd.prog) _ 24 9 5 ⟨w.heap.size, 0, none⟩ 1 [UInt8.ofNat (48 + d)] Tryd.underlying24 Tryd.underlying5 Tryd.underlying9 ?_
  intro j hj
  have h0 : j = 0 := by simpa using hj
  subst h0
  rw [show (⟨w.heap.size, 0, none⟩ : Addr).add 0 = ⟨w.heap.size, 0, none⟩ from rfl, cell_one]
  rw [List.getElem_cons_zero, dig_toNat hd]
  rfl
theorem str_eq {S : ByteArray} {l : List UInt8} (h : S.data.toList = l) : S = ⟨l.toArray⟩ := by subst h; rfl
theorem str_cat (A B : ByteArray) : (A ++ B).data.toList = A.data.toList ++ B.data.toList := by simp [ByteArray.data_append]
theorem sz_dd {S : ByteArray} {m N : Nat} (h : dd m ++ S.data.toList = dd N) (hN : (dd N).length ≤ 21) : S.size ≤ 21 := by
  have h1 : S.data.toList.length = S.size := by rw [Array.length_toList]; rfl
  rw [← h, List.length_append] at hN
  omega
set_option maxHeartbeats 1600000 in
theorem spec_FormatInt (n : Int) (w : World) (hn : -9223372036854775808 ≤ n ∧ n ≤ 9223372036854775807) :
    Calls Tryd.prog 5 #[.int .i64 n] w fun e w' => e = .returned (.string ⟨(itoa n).toArray⟩) ∧ Below w.heap.size w w' := by
  by_cases h0 : n = 0
  · subst h0
    rw [itoa_zero]
    go_enter Tryd.func5, Tryd.ntmps5
    go_wp2
    go_ret
    exact ⟨rfl, Below.refl _ _⟩
  · have z0 : (n == 0) = false := beq_eq_false_iff_ne.2 h0
    by_cases hp : 0 < n
    · obtain ⟨N, rfl⟩ := Int.eq_ofNat_of_zero_le (show 0 ≤ n by omega)
      have HI := Lib.hid (itoa_pos hp)
      rw [Int.toNat_natCast] at HI
      have HL := Lib.hid (dd_len (m := N) (by omega))
      have hN : N < 9223372036854775808 := by omega
      clear h0 hp hn
      go_enter Tryd.func5, Tryd.ntmps5
      go_wp2
      go_loopw [3, 4] (fun s x wr => ∃ (m : Nat) (S : ByteArray), s = .string S ∧ x = .int .i64 (m : Int) ∧ m ≤ N ∧ Hid (dd m ++ S.data.toList = dd N) ∧ Below w.heap.size w wr) (fun _ x _ => (intOf x).toNat)
      case atStart => exact ⟨N, _, rfl, rfl, Nat.le_refl _, Lib.hid (List.append_nil _), Below.refl _ _⟩
      case round =>
        obtain ⟨m, S, rfl, rfl, hm, HD, hbw⟩ := hrel
        have hsz := hbw.size
        have hS := sz_dd HD.out HL.out
        by_cases hz : m = 0
        · subst hz
          have he : S.data.toList = dd N := HD.out
          have HE : Hid (Ending.returned (.string S) = Ending.returned (.string ⟨(itoa (N : Int)).toArray⟩)) := Lib.hid (by rw [str_eq he, HI.out])
          clear he HD HI HL hm
          go_wp2
          go_ret
          exact ⟨HE.out, hbw⟩
        · have hz1 : ((m : Int) == 0) = false := beq_eq_false_iff_ne.2 (by omega)
          have e1 := tmod10_nat m
          have e2 := tdiv10_nat m
          have HS := Lib.hid (dd_step hz)
          have hd : m % 10 < 10 := by omega
          have hq : m / 10 < m := by omega
          obtain ⟨d, hd0⟩ : ∃ d, d = m % 10 := ⟨_, rfl⟩
          obtain ⟨q, hq0⟩ : ∃ q, q = m / 10 := ⟨_, rfl⟩
          rw [← hd0] at e1 HS hd
          rw [← hq0] at e2 HS hq
          clear hd0 hq0 hz
          obtain ⟨C, hC, hC1, hcv⟩ := str_one wr d hd
          have HT : Hid (dd q ++ (C ++ S).data.toList = dd N) := Lib.hid (by rw [str_cat, hC, ← List.append_assoc, ← HS.out]; exact HD.out)
          clear hC HS
          go_wp2
          go_roundw
          case rel => exact ⟨q, _, rfl, rfl, by omega, HT, hbw.alloc hsz _⟩
          case measure => simp [intOf]; omega
    · obtain ⟨N, hNn⟩ : ∃ N : Nat, -n = (N : Int) := ⟨(-n).toNat, by omega⟩
      have hneg : n < 0 := by omega
      have HI := Lib.hid (itoa_lt hneg)
      rw [hNn, Int.toNat_natCast] at HI
      have HL := Lib.hid (dd_len (m := N) (by omega))
      have hN : N ≤ 9223372036854775808 := by omega
      have HN := Lib.hid (show n = -(N : Int) by omega)
      obtain ⟨nl, nu⟩ := hn
      clear h0 hp hNn nu
      go_enter Tryd.func5, Tryd.ntmps5
      go_wp2
      go_loopw [3, 4] (fun s x wr => ∃ (m : Nat) (z : Int) (S : ByteArray), s = .string S ∧ x = .int .i64 z ∧ m ≤ N ∧ Hid (z = -(m : Int)) ∧ Hid (dd m ++ S.data.toList = dd N) ∧ Below w.heap.size w wr) (fun _ x _ => (-(intOf x)).toNat)
      case atStart => exact ⟨N, _, _, rfl, rfl, Nat.le_refl _, HN, Lib.hid (List.append_nil _), Below.refl _ _⟩
      case round =>
        obtain ⟨m, z, S, rfl, rfl, hm, HZ, HD, hbw⟩ := hrel
        have hsz := hbw.size
        have hS := sz_dd HD.out HL.out
        have z0' := HZ.out
        have hzl : -9223372036854775808 ≤ z := by omega
        have hzu : z ≤ 0 := by omega
        clear z0'
        by_cases hz : m = 0
        · subst hz
          have he : S.data.toList = dd N := HD.out
          have hz1 : z = 0 := HZ.out
          subst hz1
          obtain ⟨C, hC⟩ : ∃ C : ByteArray, C = ⟨#[45]⟩ ++ S := ⟨_, rfl⟩
          have HE : Hid (Ending.returned (.string (⟨#[45]⟩ ++ S)) = Ending.returned (.string ⟨(itoa n).toArray⟩)) := Lib.hid (by rw [str_eq (S := ⟨#[45]⟩ ++ S) (l := 45 :: dd N) (by rw [str_cat, he]; rfl), HI.out])
          clear he HD HI HL hm hN
          have hc1 : (⟨#[45]⟩ : ByteArray).size = 1 := rfl
          go_wp2
          go_ret
          exact ⟨HE.out, hbw⟩
        · have hz1 : (z == 0) = false := beq_eq_false_iff_ne.2 (by have := HZ.out; omega)
          have e1 := tmod10_neg m
          have e2 := tdiv10_neg m
          have HS := Lib.hid (dd_step hz)
          have hd : m % 10 < 10 := by omega
          have hq : m / 10 < m := by omega
          obtain ⟨d, hd0⟩ : ∃ d, d = m % 10 := ⟨_, rfl⟩
          obtain ⟨q, hq0⟩ : ∃ q, q = m / 10 := ⟨_, rfl⟩
          rw [← HZ.out, ← hd0] at e1
          rw [← HZ.out, ← hq0] at e2
          rw [← hd0] at HS hd
          rw [← hq0] at HS hq
          clear hd0 hq0 hz
          obtain ⟨C, hC, hC1, hcv⟩ := str_one wr d hd
          have HT : Hid (dd q ++ (C ++ S).data.toList = dd N) := Lib.hid (by rw [str_cat, hC, ← List.append_assoc, ← HS.out]; exact HD.out)
          obtain ⟨y, hy⟩ : ∃ y : Int, y = -(q : Int) := ⟨_, rfl⟩
          have HM : Hid ((-y).toNat < (-z).toNat) := Lib.hid (by have := HZ.out; omega)
          have HQ : Hid (q ≤ N) := Lib.hid (by omega)
          rw [← hy] at e2
          have HY := Lib.hid hy
          have hyl : -9223372036854775808 ≤ y := by omega
          have hyu : y ≤ 0 := by omega
          clear hC HS hy hq hm HD HZ hN
          by_cases hd0 : d = 0
          · subst hd0
            rw [show (48 : Int) + ((0 : Nat) : Int) = 48 from rfl] at hcv
            go_wp2
            go_roundw
            case rel => exact ⟨q, y, _, rfl, rfl, HQ.out, HY, HT, hbw.alloc hsz _⟩
            case measure => exact HM.out
          · have i1 : -(d : Int) < 0 := by omega
            clear hd0
            go_wp2
            go_roundw
            case rel => exact ⟨q, y, _, rfl, rfl, HQ.out, HY, HT, hbw.alloc hsz _⟩
            case measure => exact HM.out
end Go.Proofs.YtpmilkemimlmcaaDoor

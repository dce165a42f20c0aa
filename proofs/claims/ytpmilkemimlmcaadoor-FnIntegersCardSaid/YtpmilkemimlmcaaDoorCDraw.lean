/- The cursor of the draws (spec's l1New, l1Byte, ..): weak contracts: a value in its range, the cursor as a cursor, nothing else turned. -/
import Derived.Test.YtpmilkemimlmcaaDoorCApp
import Derived.Test.YtpmilkemimlmcaaDoorCInfo
import Derived.Test.YtpmilkemimlmcaaDoorCLit
import Derived.Test.YtpmilkemimlmcaaDoorCStep
import Derived.Test.YtpmilkemimlmcaaDoorCBits2
import Derived.BigQuiet
namespace Go.Proofs.YtpmilkemimlmcaaDoor
open Go.RowKit
set_option linter.unusedVariables false

/-- A cursor at block g: a struct in a block of [B, T) whose bytes lie below B. -/
structure CurAt (w : World) (B T g : Nat) (A : Option Addr) (c i : Nat) (h : Int) (zs : List Int) : Prop where
  lo : B ≤ g
  hi : g < T
  sz : T ≤ w.heap.size
  c0 : w.cell? ⟨g, 0, none⟩ = some (.slice A zs.length c)
  c1 : w.cell? ⟨g, 1, none⟩ = some (.int .i64 (i : Int))
  c2 : w.cell? ⟨g, 2, none⟩ = some (.int .i64 h)
  f1 : w.frozen? ⟨g, 1, none⟩ = false
  f2 : w.frozen? ⟨g, 2, none⟩ = false
  il : i ≤ zs.length
  h0 : -9223372036854775808 ≤ h
  h1 : h ≤ 9223372036854775807
  rd : RdB .u8 w B (.slice A zs.length c) zs
def Cur (w : World) (B T : Nat) (v : Value) : Prop := ∃ g A c i h zs, v = .pointer (some ⟨g, 0, none⟩) ∧ CurAt w B T g A c i h zs

theorem CurAt.keep {w w' : World} {B T K g : Nat} {A : Option Addr} {c i : Nat} {h : Int} {zs : List Int} (k : CurAt w B T g A c i h zs) (hb : Below K w w') (hT : T ≤ K) : CurAt w' B T g A c i h zs := by
  have hgK : g < K := Nat.lt_of_lt_of_le k.hi hT
  exact ⟨k.lo, k.hi, Nat.le_trans k.sz hb.size, (hb.cell (p := ⟨g, 0, none⟩) hgK).trans k.c0, (hb.cell (p := ⟨g, 1, none⟩) hgK).trans k.c1, (hb.cell (p := ⟨g, 2, none⟩) hgK).trans k.c2,
    (hb.frozen (p := ⟨g, 1, none⟩) hgK).trans k.f1, (hb.frozen (p := ⟨g, 2, none⟩) hgK).trans k.f2, k.il, k.h0, k.h1, k.rd.keep (hb.mono (by have := k.lo; omega))⟩
theorem Cur.keep {w w' : World} {B T K : Nat} {v : Value} (h : Cur w B T v) (hb : Below K w w') (hT : T ≤ K) : Cur w' B T v := by
  obtain ⟨g, A, c, i, hh, zs, rfl, k⟩ := h
  exact ⟨g, A, c, i, hh, zs, rfl, k.keep hb hT⟩
theorem Cur.next {w w' : World} {B T : Nat} {v : Value} (h : Cur w B T v) (hb : Below w.heap.size w w') : Cur w' B T v := by
  obtain ⟨g, A, c, i, hh, zs, rfl, k⟩ := h
  exact ⟨g, A, c, i, hh, zs, rfl, k.keep hb k.sz⟩
theorem Cur.sz {w : World} {B T : Nat} {v : Value} (h : Cur w B T v) : T ≤ w.heap.size ∧ B < T := by
  obtain ⟨g, A, c, i, hh, zs, rfl, k⟩ := h
  exact ⟨k.sz, Nat.lt_of_le_of_lt k.lo k.hi⟩
theorem Cur.drewN {w : World} {B T : Nat} {v : Value} (h : Cur w B T v) (n : Nat) : Cur (w.drewN n) B T v := by
  obtain ⟨g, A, c, i, hh, zs, rfl, k⟩ := h
  exact ⟨g, A, c, i, hh, zs, rfl, k.1, k.2, k.3, k.4, k.5, k.6, k.7, k.8, k.9, k.10, k.11, k.12⟩
theorem Only.drewN {B T : Nat} {w w' : World} (h : Only B T w w') (n : Nat) : Only B T w (w'.drewN n) := ⟨h.1, h.2, h.3, h.4, h.5⟩
theorem Only.undrew {B T : Nat} {w w' : World} {n : Nat} (h : Only B T (w.drewN n) w') : Only B T w w' := ⟨h.1, h.2, h.3, h.4, h.5⟩
theorem Only.alloc {B T : Nat} {w w' : World} (h : Only B T w w') (o : Obj) : Only B T w (w'.alloc o) :=
  h.trans (Only.of_below ((Below.refl _ _).alloc (Nat.le_refl _) _))
theorem CurAt.set1 {w : World} {B T g : Nat} {A : Option Addr} {c i : Nat} {h : Int} {zs : List Int} (k : CurAt w B T g A c i h zs) {j : Nat} {z : Int} (hz : z = (j : Int)) (hj : j ≤ zs.length) :
    CurAt (w.setCell ⟨g, 1, none⟩ (.int .i64 z)) B T g A c j h zs ∧ Only B T w (w.setCell ⟨g, 1, none⟩ (.int .i64 z)) := by
  have ho := Only.setCell (B := B) (T := T) w (p := ⟨g, 1, none⟩) k.lo k.hi (.int .i64 z)
  refine ⟨⟨k.lo, k.hi, Nat.le_trans k.sz ho.size, ?_, ?_, ?_, by rw [World.frozen?_setCell]; exact k.f1, by rw [World.frozen?_setCell]; exact k.f2, hj, k.h0, k.h1, k.rd.keep (ho.below (Nat.le_refl _) (by have := k.lo; have := k.hi; have := k.sz; omega))⟩, ho⟩
  · rw [World.cell?_setCell_other _ _ _ _ (by simp)]; exact k.c0
  · rw [World.cell?_setCell_same _ _ _ k.c1, hz]
  · rw [World.cell?_setCell_other _ _ _ _ (by simp)]; exact k.c2
theorem CurAt.set2 {w : World} {B T g : Nat} {A : Option Addr} {c i : Nat} {h : Int} {zs : List Int} (k : CurAt w B T g A c i h zs) {z : Int} (hz0 : -9223372036854775808 ≤ z) (hz1 : z ≤ 9223372036854775807) :
    CurAt (w.setCell ⟨g, 2, none⟩ (.int .i64 z)) B T g A c i z zs ∧ Only B T w (w.setCell ⟨g, 2, none⟩ (.int .i64 z)) := by
  have ho := Only.setCell (B := B) (T := T) w (p := ⟨g, 2, none⟩) k.lo k.hi (.int .i64 z)
  refine ⟨⟨k.lo, k.hi, Nat.le_trans k.sz ho.size, ?_, ?_, ?_, by rw [World.frozen?_setCell]; exact k.f1, by rw [World.frozen?_setCell]; exact k.f2, k.il, hz0, hz1, k.rd.keep (ho.below (Nat.le_refl _) (by have := k.lo; have := k.hi; have := k.sz; omega))⟩, ho⟩
  · rw [World.cell?_setCell_other _ _ _ _ (by simp)]; exact k.c0
  · rw [World.cell?_setCell_other _ _ _ _ (by simp)]; exact k.c1
  · rw [World.cell?_setCell_same _ _ _ k.c2]
theorem CurAt.drewN {w : World} {B T g : Nat} {A : Option Addr} {c i : Nat} {h : Int} {zs : List Int} (k : CurAt w B T g A c i h zs) (n : Nat) : CurAt (w.drewN n) B T g A c i h zs :=
  ⟨k.1, k.2, k.3, k.4, k.5, k.6, k.7, k.8, k.9, k.10, k.11, k.12⟩

theorem CurAt.mono {w : World} {B T T' g : Nat} {A : Option Addr} {c i : Nat} {h : Int} {zs : List Int} (k : CurAt w B T g A c i h zs) (hT : T = T') : CurAt w B T' g A c i h zs := by subst hT; exact k
theorem cur_new {E : TypeId} (w : World) {A : Option Addr} {c : Nat} {h : Int} {zs : List Int} (q : RdB .u8 w w.heap.size (.slice A zs.length c) zs) (h0 : -9223372036854775808 ≤ h) (h1 : h ≤ 9223372036854775807) :
    CurAt (w.alloc (.cells #[.slice A zs.length c, .int .i64 0, .int .i64 h] E)) w.heap.size (w.heap.size + 1) w.heap.size A c 0 h zs := by
  refine ⟨Nat.le_refl _, Nat.lt_succ_self _, by simp, by simp [World.cell?, World.alloc, -World.alloc_eq], by simp [World.cell?, World.alloc, -World.alloc_eq], by simp [World.cell?, World.alloc, -World.alloc_eq], ?_, ?_, Nat.zero_le _, h0, h1, q.keep ((Below.refl _ _).alloc (Nat.le_refl _) _)⟩
  · simp [World.frozen?, World.alloc, -World.alloc_eq]
  · simp [World.frozen?, World.alloc, -World.alloc_eq]
/-- What a draw of a number below n leaves. -/
def Drew (n B T : Nat) (v : Value) (w : World) (e : Ending) (w' : World) : Prop := (∃ x : Nat, e = .returned (.int .i64 (x : Int)) ∧ x < n) ∧ Cur w' B T v ∧ Only B T w w'
set_option maxHeartbeats 1600000 in
theorem l1Byte (v : Value) (B T : Nat) (w : World) (hv : Cur w B T v) :
    Calls Tryd.prog 26 #[v] w (Drew 256 B T v w) := by
  obtain ⟨g, A, c, i, h, zs, rfl, k⟩ := hv
  have lz := k.rd.1.len_le
  have ⟨klo, khi, ksz, c0, c1, c2, f1, f2, il, h0, h1, rd⟩ := k
  have hw : -9223372036854775808 ≤ wrap64 (wrap64 (h * 6364136223846793005) + 1442695040888963407) ∧ wrap64 (wrap64 (h * 6364136223846793005) + 1442695040888963407) ≤ 9223372036854775807 := by unfold wrap64; omega
  by_cases hi : i < zs.length
  · obtain ⟨b, off, x, rfl, hb, HX, e1, e2⟩ := rd.1.elem (Below.refl _ _) hi
    have ng1 : b ≠ g := by have := rd.2 b rfl (by omega); omega
    have ng2 : g ≠ b := fun h => ng1 h.symm
    have hx := bounds_u8 e2
    go_enter Tryd.func26, Tryd.ntmps26
    go_wp2
    go_quiet (fail)
    generalize wrap64 (wrap64 (h * 6364136223846793005) + 1442695040888963407) = hn at hw ⊢
    obtain ⟨y, hy, hy2⟩ := i64_and_255 (bits BinOp.xor IntKind.i64 (hn / 8589934592) (hn / 140737488355328))
    rw [hy]
    clear hy
    go_wp2
    go_quiet (fail)
    go_wp2
    go_quiet (fail)
    obtain ⟨z, hz, hz2⟩ := i64_and_255 ((y : Int) + x)
    rw [hz]
    clear hz
    go_wp2
    go_ret
    have r1 := k.set2 hw.1 hw.2
    exact ⟨⟨z, rfl, hz2⟩, ⟨_, _, _, _, _, _, rfl, ((r1.1.drewN _).set1 (j := i + 1) rfl hi).1⟩, (r1.2.drewN _).trans ((r1.1.drewN _).set1 (j := i + 1) rfl hi).2⟩
  · obtain rfl : i = zs.length := by omega
    go_enter Tryd.func26, Tryd.ntmps26
    go_wp2
    go_quiet (fail)
    generalize wrap64 (wrap64 (h * 6364136223846793005) + 1442695040888963407) = hn at hw ⊢
    obtain ⟨y, hy, hy2⟩ := i64_and_255 (bits BinOp.xor IntKind.i64 (hn / 8589934592) (hn / 140737488355328))
    rw [hy]
    clear hy
    go_wp2
    go_quiet (fail)
    go_wp2
    go_ret
    have r1 := k.set2 hw.1 hw.2
    exact ⟨⟨y, rfl, hy2⟩, ⟨_, _, _, _, _, _, rfl, (r1.1.drewN _).drewN _⟩, (r1.2.drewN _).drewN _⟩
set_option maxRecDepth 100000 in
set_option maxHeartbeats 1600000 in
theorem l1New (u : Value) (xs : List Int) (w : World) (hu : Rd .u8 w u xs) (hn : xs.length ≤ 1099511627776) :
    Calls Tryd.prog 15 #[u] w fun e w' => (∃ v, e = .returned v ∧ Cur w' w.heap.size w'.heap.size v) ∧ Below w.heap.size w w' := by
  have q := hu.b
  rcases hu.parts with ⟨rfl, a, c, rfl⟩ | ⟨hpos, b, off, c, rfl⟩
  · go_enter Tryd.func15, Tryd.ntmps15
    go_wp2
    go_rounds 1
    go_ret
    exact ⟨⟨_, rfl, _, _, _, _, _, _, rfl, (cur_new (zs := []) (E := 41) w q (by omega) (by omega)).mono (by simp)⟩, (Below.refl _ _).alloc (Nat.le_refl _) _⟩
  · go_enter Tryd.func15, Tryd.ntmps15
    go_wp2
    go_loop [3, 4] (fun r i => ∃ k h : Nat, k ≤ xs.length ∧ i = .int .i64 k ∧ r = .int .i64 h ∧ h < 2199023255552) (fun _ i => xs.length - (intOf i).toNat)
    case atStart => exact ⟨0, 193017 + xs.length, Nat.zero_le _, rfl, rfl, by omega⟩
    case round =>
      obtain ⟨k, h, hk, rfl, rfl, hh⟩ := hrel
      by_cases hlt : k < xs.length ∧ k < 4000
      · obtain ⟨hlt, hlt2⟩ := hlt
        obtain ⟨x, hb, HX, g1, x0, x1⟩ := hu.elem8 (Below.refl _ _) hlt
        obtain ⟨y, hy, hy2⟩ := i64_and_30 ((h : Int) * 137 + x + 11)
        have HY := Lib.hid hy
        clear hy
        go_wp2
        go_round
        case rel => exact ⟨k + 1, y, by omega, by go_num, by rw [HY.out], by omega⟩
        case measure => simp [intOf]; omega
      · by_cases hlt1 : k < xs.length
        · have hlt2 : ¬ k < 4000 := by omega
          clear hlt
          go_wp2
          go_ret
          exact ⟨⟨_, rfl, _, _, _, _, _, _, rfl, (cur_new (zs := xs) (E := 41) w q (by omega) (by omega)).mono (by simp)⟩, (Below.refl _ _).alloc (Nat.le_refl _) _⟩
        · clear hlt
          go_wp2
          go_ret
          exact ⟨⟨_, rfl, _, _, _, _, _, _, rfl, (cur_new (zs := xs) (E := 41) w q (by omega) (by omega)).mono (by simp)⟩, (Below.refl _ _).alloc (Nat.le_refl _) _⟩
set_option maxHeartbeats 1600000 in
theorem l1Below (v : Value) (n : Nat) (B T : Nat) (w : World) (hv : Cur w B T v) (h0 : 0 < n) (hn : n ≤ 1073741824) :
    Calls Tryd.prog 22 #[v, .int .i64 (n : Int)] w (Drew n B T v w) := by
  have tm : ∀ x : Nat, Int.tmod (x : Int) (n : Int) = ((x % n : Nat) : Int) := fun x => rfl
  have CB := Lib.hid (fun v' B' T' w' h' => l1Byte v' B' T' w' h')
  by_cases h2 : n ≤ 256
  · go_enter Tryd.func22, Tryd.ntmps22
    go_wp2_with fail
    refine (CB.out v B T _ hv).mono ?_
    rintro e w1 ⟨⟨x, rfl, hx⟩, hc, ho⟩
    go_wp2
    go_ret
    exact ⟨⟨x % n, ret_int (tm x), Nat.mod_lt _ h0⟩, hc, ho⟩
  · go_enter Tryd.func22, Tryd.ntmps22
    go_wp2_with fail
    refine (CB.out v B T _ hv).mono ?_
    rintro e w1 ⟨⟨x, rfl, hx⟩, hc1, ho1⟩
    go_wp2_with fail
    refine (CB.out v B T _ hc1).mono ?_
    rintro e w2 ⟨⟨y, rfl, hy⟩, hc2, ho2⟩
    go_wp2_with fail
    refine (CB.out v B T _ hc2).mono ?_
    rintro e w3 ⟨⟨z, rfl, hz⟩, hc3, ho3⟩
    go_wp2
    go_ret
    exact ⟨⟨(x * 65536 + y * 256 + z) % n, ret_int (by rw [← tm, Int.natCast_add, Int.natCast_add, Int.natCast_mul, Int.natCast_mul]; rfl), Nat.mod_lt _ h0⟩, hc3, (ho1.trans ho2).trans ho3⟩
set_option maxHeartbeats 1600000 in
theorem l1Once (v : Value) (n : Nat) (B T : Nat) (w : World) (hv : Cur w B T v) (h0 : 0 < n) (hn : n ≤ 1073741824) :
    Calls Tryd.prog 16 #[v, .int .i64 (n : Int)] w fun e w' => (∃ b : Bool, e = .returned (.bool b)) ∧ Cur w' B T v ∧ Only B T w w' := by
  go_enter Tryd.func16, Tryd.ntmps16
  go_wp2_with fail
  refine (l1Below v n B T _ hv h0 hn).mono ?_
  rintro e w1 ⟨⟨x, rfl, hx⟩, hc, ho⟩
  go_wp2
  go_ret
  exact ⟨⟨_, rfl⟩, hc, ho⟩
set_option maxHeartbeats 1600000 in
theorem l1Int (v u : Value) (zs : List Int) (B T B' T' : Nat) (w : World) (hv : Cur w B T v) (hu : Own .i64 3 w B' T' u zs) (hT : T ≤ B') (h0 : 0 < zs.length) (hn : zs.length ≤ 1073741824) :
    Calls Tryd.prog 23 #[v, u] w fun e w' => (∃ x, e = .returned (.int .i64 x) ∧ x ∈ zs) ∧ Cur w' B T v ∧ Only B T w w' := by
  rcases hu.parts with ⟨rfl, _⟩ | ⟨_, b, c, rfl⟩
  · simp at h0
  have lz := hu.rd.len_le
  go_enter Tryd.func23, Tryd.ntmps23
  go_wp2_with fail
  refine (l1Below v zs.length B T _ hv h0 hn).mono ?_
  rintro e w1 ⟨⟨x, rfl, hx⟩, hc, ho⟩
  have hu1 := hu.apart ho (Or.inr hT)
  obtain ⟨y, hb, HX, g1, _⟩ := hu1.rd.elem64 (Below.refl _ _) hx
  rw [Nat.zero_add] at g1
  go_wp2
  go_ret
  refine ⟨⟨y, rfl, ?_⟩, hc, ho⟩
  rw [← HX.out, List.getD_eq_getElem?_getD, List.getElem?_eq_getElem hx]
  exact List.getElem_mem hx
end Go.Proofs.YtpmilkemimlmcaaDoor

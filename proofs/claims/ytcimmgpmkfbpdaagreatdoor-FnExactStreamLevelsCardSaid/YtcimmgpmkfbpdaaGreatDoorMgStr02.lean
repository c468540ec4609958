/- The program's naturals in memory: trim, naturalOf, compare, small. -/
import Derived.Test.YtcimmgpmkfbpdaaGreatDoorMgStr01
import Derived.Test.YtcimmgpmkfbpdaaGreatDoorMgStr00
import Derived.Deep.QuietTactic
import Derived.BigQuiet
namespace Go.Proofs.YtcimmgpmkfbpdaaGreatDoor.Nat32
open Go.RowKit Go.Proofs.YtcimmgpmkfbpdaaGreatDoor Go.Proofs.YtcimmgpmkfbpdaaGreatDoor.Base Go.Proofs.YtcimmgpmkfbpdaaGreatDoor.Mem Go.Proofs.YtcimmgpmkfbpdaaGreatDoor.NatM
set_option linter.unusedVariables false
def RdU (w : World) (B : Nat) (A : Option Addr) (xs : List Nat) : Prop :=
 0 < xs.length → ∃ b off, A = some ⟨b, off, none⟩ ∧ b < B ∧ ∀ i, i < xs.length → w.cell? ⟨b, off + i, none⟩ = some (.int .u32 ((xs.getD i 0 : Nat) : Int))
theorem RdU.below {w w' : World} {B C : Nat} {A : Option Addr} {xs : List Nat} (h : RdU w B A xs) (hb : Below C w w') (hBC : B ≤ C) : RdU w' B A xs := fun h0 => by
 obtain ⟨b, off, e, hlt, hc⟩ := h h0
 exact ⟨b, off, e, hlt, fun i hi => (hb.cell (p := ⟨b, off + i, none⟩) (by show b < C; omega)).trans (hc i hi)⟩
theorem RdU.more {w : World} {B C : Nat} {A : Option Addr} {xs : List Nat} (h : RdU w B A xs) (hBC : B ≤ C) : RdU w C A xs := fun h0 => by
 obtain ⟨b, off, e, hlt, hc⟩ := h h0
 exact ⟨b, off, e, by omega, hc⟩
theorem RdU.take {w : World} {B n : Nat} {A : Option Addr} {xs : List Nat} (h : RdU w B A xs) (hn : n ≤ xs.length) : RdU w B A (xs.take n) := fun h0 => by
 rw [List.length_take, Nat.min_eq_left hn] at h0
 obtain ⟨b, off, e, hlt, hc⟩ := h (by omega)
 refine ⟨b, off, e, hlt, fun i hi => ?_⟩
 rw [List.length_take, Nat.min_eq_left hn] at hi
 rw [hc i (by omega)]
 simp [List.getD, hi]
theorem RdU.drewN {w : World} {B : Nat} {A : Option Addr} {xs : List Nat} (h : RdU w B A xs) (n : Nat) : RdU (w.drewN n) B A xs := h.below (below_drewN (Below.refl B w) n) (Nat.le_refl _)
def NRet (x : Nat) (w : World) (e : Ending) (w' : World) : Prop := ∃ A c, e = .returned (.slice A (natL x).length c) ∧ RdU w' w'.heap.size A (natL x) ∧ Below w.heap.size w w'
def TrimRet (A : Option Addr) (c x : Nat) (w : World) (e : Ending) (w' : World) : Prop := e = .returned (.slice A (natL x).length c) ∧ w = w'
set_option maxHeartbeats 1000000 in
theorem trim_any (A : Option Addr) (c B : Nat) (xs : List Nat) (w : World) (hx : RdU w B A xs) (hok : okN xs) (hl : xs.length ≤ 10000000) (hc : xs.length ≤ c) (hc2 : c ≤ 9223372036854775807) :
  Calls Tryz.prog 127 #[.slice A xs.length c] w (TrimRet A c (val xs) w) := by
 have HX := Lib.hid hx
 have HOk := Lib.hid hok
 have h0 : Hid (val (xs.take xs.length) = val xs) := Lib.hid (by rw [List.take_of_length_le (Nat.le_refl _)])
 clear hx hok
 go_enter Tryz.func127, Tryz.ntmps127
 go_wp2
 go_loop [3] (fun nv => ∃ n : Nat, n ≤ xs.length ∧ nv = .int .i64 (n : Int) ∧ Hid (val (xs.take n) = val xs)) (fun nv => (intOf nv).toNat)
 case atStart => exact ⟨xs.length, Nat.le_refl _, rfl, h0⟩
 case round =>
  obtain ⟨n, hn, rfl, hv⟩ := hrel
  clear h0
  by_cases hpos : 0 < n
  ·obtain ⟨m, rfl⟩ : ∃ m, n = m + 1 := ⟨n - 1, by omega⟩
   obtain ⟨b, off, rfl, _, hcell⟩ := HX.out (by omega)
   have g := hcell m (by omega)
   clear hcell
   by_cases hz : xs.getD m 0 = 0
   ·have HN := Lib.hid (trim_step hn hv.out hz)
    rw [hz] at g
    clear hz
    go_wp2
    go_round
    case rel => exact ⟨m, by omega, rfl, HN⟩
    case measure => simp [intOf]
   ·have HT := Lib.hid (trim_done HOk.out hn hv.out (.inr (by simpa using hz)))
    have hlen : Hid ((natL (val xs)).length = m + 1) := Lib.hid (by rw [← HT.out, List.length_take, Nat.min_eq_left hn])
    have hzb : (((xs.getD m 0 : Nat) : Int) == 0) = false := by simp only [beq_eq_false_iff_ne]; omega
    have hmc : ((m : Int) + 1 ≤ (c : Int)) := by omega
    clear hz
    generalize xs.getD m 0 = y at *
    go_wp2
    go_ret
    exact ⟨by rw [hlen.out]; rfl, rfl⟩
  ·obtain rfl : n = 0 := by omega
   have HT := Lib.hid (trim_done HOk.out hn hv.out (.inl rfl))
   have hlen : Hid ((natL (val xs)).length = 0) := Lib.hid (by rw [← HT.out]; simp)
   rcases A with _ | ad
   ·go_wp2
    go_ret
    exact ⟨by rw [hlen.out]; rfl, rfl⟩
   ·go_wp2
    go_ret
    exact ⟨by rw [hlen.out]; rfl, rfl⟩
theorem NRet.of {x : Nat} {w w' : World} {A : Option Addr} {c : Nat} {xs : List Nat} (h : RdU w' w'.heap.size A xs) (hx : xs.take (natL x).length = natL x) (hl : (natL x).length ≤ xs.length) (hb : Below w.heap.size w w') : NRet x w (.returned (.slice A (natL x).length c)) w' :=
 ⟨A, c, rfl, by have := h.take hl; rwa [hx] at this, hb⟩
theorem natL_take {xs : List Nat} (hok : okN xs) : xs.take (natL (val xs)).length = natL (val xs) ∧ (natL (val xs)).length ≤ xs.length := by
 have key : ∀ n, n ≤ xs.length → val (xs.take n) = val xs → xs.take (natL (val xs)).length = natL (val xs) ∧ (natL (val xs)).length ≤ xs.length := by
  intro n
  induction n with
  | zero =>
   intro hn hv
   have h := trim_done hok hn hv (.inl rfl)
   have hl : (natL (val xs)).length = 0 := by rw [← h]; simp
   rw [hl, h]
   exact ⟨rfl, Nat.zero_le _⟩
  | succ n ih =>
   intro hn hv
   by_cases hz : xs.getD n 0 = 0
   ·exact ih (by omega) (trim_step hn hv hz)
   ·have h := trim_done hok hn hv (.inr (by simpa using hz))
    have hl : (natL (val xs)).length = n + 1 := by rw [← h, List.length_take, Nat.min_eq_left hn]
    rw [hl, h]
    exact ⟨rfl, hn⟩
 exact key xs.length (Nat.le_refl _) (by rw [List.take_of_length_le (Nat.le_refl _)])
set_option maxHeartbeats 1000000 in
theorem naturalOf_any (n : Nat) (hn : n < 9223372036854775808) (w : World) : Calls Tryz.prog 102 #[.int .i64 (n : Int)] w (NRet n w) := by
 go_enter Tryz.func102, Tryz.ntmps102
 have hm : n % B32 < B32 := Nat.mod_lt _ (by decide)
 have hd : n / B32 < B32 := by unfold B32; omega
 have hok : okN [n % B32, n / B32] := by
  intro x hx
  simp only [List.mem_cons, List.not_mem_nil, or_false] at hx
  rcases hx with rfl | rfl
  ·exact hm
  ·exact hd
 have hv : val [n % B32, n / B32] = n := by
  simp only [val, Nat.mul_zero, Nat.add_zero]
  exact Nat.mod_add_div n B32
 have hW : RdU (w.alloc (.cells #[.int .u32 ((n : Int) % 4294967296), .int .u32 ((n : Int) / 4294967296)] 170)) (w.heap.size + 1) (some ⟨w.heap.size, 0, none⟩) [n % B32, n / B32] := fun _ => by
  refine ⟨w.heap.size, 0, rfl, Nat.lt_succ_self _, fun i hi => ?_⟩
  have hi2 : i < 2 := hi
  have : i = 0 ∨ i = 1 := by omega
  rcases this with rfl | rfl
  ·rw [World.cell?_alloc_new]; simp [B32]
  ·rw [World.cell?_alloc_new]; simp [B32]
 have HT := Lib.hid (trim_any (some ⟨w.heap.size, 0, none⟩) 2 (w.heap.size + 1) [n % B32, n / B32] _ hW hok (by simp) (by simp) (by decide))
 rw [hv] at HT
 have hB : Below w.heap.size w (w.alloc (.cells #[.int .u32 ((n : Int) % 4294967296), .int .u32 ((n : Int) / 4294967296)] 170)) := (Below.refl _ _).alloc (Nat.le_refl _) _
 have hk := natL_take hok
 rw [hv] at hk
 have HR := Lib.hid (NRet.of (x := n) (w := w) (c := 2) (hW.more (by simp)) hk.1 hk.2 hB)
 clear hm hd hok hv hW hB hk
 go_wp2_with fail
 refine HT.out.mono ?_
 rintro e w1 ⟨rfl, rfl⟩
 go_wp2
 go_ret
 exact HR.out
def CmpR (x y : Nat) (r : Int) : Prop := (x < y → r < 0) ∧ (x = y → r = 0) ∧ (y < x → 0 < r)
def CmpRet (x y : Nat) (w : World) (e : Ending) (w' : World) : Prop := ∃ r : Int, e = .returned (.int .i64 r) ∧ CmpR x y r ∧ Drawn w w'
set_option maxHeartbeats 1000000 in
theorem compare_any (x y : Nat) (A A' : Option Addr) (c c' B B' : Nat) (w : World) (hx : RdU w B A (natL x)) (hy : RdU w B' A' (natL y)) (hl : (natL x).length ≤ 10000000) (hl' : (natL y).length ≤ 10000000) :
  Calls Tryz.prog 132 #[.slice A (natL x).length c, .slice A' (natL y).length c'] w (CmpRet x y w) := by
 have HX := Lib.hid hx
 have HY := Lib.hid hy
 have vx := natL_val x
 have vy := natL_val y
 have ox := natL_ok x
 have oy := natL_ok y
 have l1 := @natL_len_lt x y
 have l2 := @natL_len_lt y x
 generalize hxs : natL x = xs at *
 generalize hys : natL y = ys at *
 have HV := Lib.hid (And.intro vx vy)
 have HO := Lib.hid (And.intro ox oy)
 by_cases hlen : xs.length = ys.length
 ·have heq : ((xs.length : Int) != (ys.length : Int)) = false := by simp [hlen]
  have HL := Lib.hid hlen
  have hle : (ys.length : Int) = (xs.length : Int) := by omega
  have HLe := Lib.hid hle
  clear hx hy vx vy ox oy l1 l2 hlen hxs hys hle
  go_enter Tryz.func132, Tryz.ntmps132
  go_wp2
  go_loopw [5] (fun iv wr => ∃ n : Nat, n ≤ xs.length ∧ iv = .int .i64 ((n : Int) - 1) ∧ Hid (∀ j, n ≤ j → j < xs.length → xs.getD j 0 = ys.getD j 0) ∧ Drawn w wr) (fun iv _ => (intOf iv + 1).toNat)
  case atStart => exact ⟨xs.length, Nat.le_refl _, rfl, Lib.hid (fun j h1 h2 => absurd h2 (by omega)), Drawn.refl _⟩
  case round =>
   obtain ⟨n, hn, rfl, he, hD⟩ := hrel
   have HD := Lib.hid hD
   clear hD
   by_cases hpos : 0 < n
   ·obtain ⟨m, rfl⟩ : ∃ m, n = m + 1 := ⟨n - 1, by omega⟩
    obtain ⟨b, off, rfl, _, hc⟩ := (HX.out.below (HD.out.below (B := B)) (Nat.le_refl _)) (by omega)
    obtain ⟨b', off', rfl, _, hc'⟩ := (HY.out.below (HD.out.below (B := B')) (Nat.le_refl _)) (by have := HL.out; omega)
    have g := hc m (by omega)
    have g' := hc' m (by have := HL.out; omega)
    have hmy : m < ys.length := by have := HL.out; omega
    clear hc hc'
    have e1 : (((m + 1 : Nat) : Int) - 1) = (m : Int) := by omega
    rw [e1]
    have i0 : (0 : Int) ≤ (m : Int) := Int.natCast_nonneg _
    have i1 : (m : Int) < (xs.length : Int) := by omega
    have i2 : (m : Int) < (ys.length : Int) := by omega
    clear e1
    by_cases hz : xs.getD m 0 = ys.getD m 0
    ·have HN : Hid (∀ j, m ≤ j → j < xs.length → xs.getD j 0 = ys.getD j 0) := Lib.hid fun j h1 h2 => by
      rcases Nat.lt_or_ge m j with h | h
      ·exact he.out j (by omega) h2
      ·rw [show j = m by omega]; exact hz
     rw [hz] at g
     clear hz
     have hb : (((ys.getD m 0 : Nat) : Int) != ((ys.getD m 0 : Nat) : Int)) = false := by simp
     generalize ys.getD m 0 = y1 at *
     go_wp2
     go_quiet (fail)
     go_wp2
     go_roundw
     case rel => exact ⟨m, by omega, by congr 1, HN, HD.out.next _⟩
     case measure => simp [intOf]
    ·rcases Nat.lt_or_gt_of_ne hz with hlt | hgt
     ·have HR := Lib.hid (cmp_lt (n := m) HL.out HO.out.1 HO.out.2 (by omega) (fun j h1 h2 => he.out j h1 h2) hlt)
      have hb : (((xs.getD m 0 : Nat) : Int) != ((ys.getD m 0 : Nat) : Int)) = true := bne_iff_ne.2 (by omega)
      have hb2 : decide (((xs.getD m 0 : Nat) : Int) < ((ys.getD m 0 : Nat) : Int)) = true := decide_eq_true (by omega)
      have hb3 : decide (xs.getD m 0 < ys.getD m 0) = true := decide_eq_true hlt
      clear hz hlt
      generalize xs.getD m 0 = x1 at *
      generalize ys.getD m 0 = y1 at *
      go_wp2
      go_quiet (fail)
      go_wp2
      go_quiet (fail)
      go_wp2
      go_ret
      exact ⟨-1, rfl, by rw [HV.out.1, HV.out.2] at HR; exact ⟨fun _ => by decide, fun h => absurd h (Nat.ne_of_lt HR.out), fun h => absurd h (Nat.lt_asymm HR.out)⟩, (HD.out.next _).next _⟩
     ·have HR := Lib.hid (cmp_lt (n := m) HL.out.symm HO.out.2 HO.out.1 (by omega) (fun j h1 h2 => (he.out j h1 (by have := HL.out; omega)).symm) hgt)
      have hb : (((xs.getD m 0 : Nat) : Int) != ((ys.getD m 0 : Nat) : Int)) = true := bne_iff_ne.2 (by omega)
      have hb2 : decide (((xs.getD m 0 : Nat) : Int) < ((ys.getD m 0 : Nat) : Int)) = false := decide_eq_false (by omega)
      have hb3 : decide (xs.getD m 0 < ys.getD m 0) = false := decide_eq_false (by omega)
      clear hz hgt
      generalize xs.getD m 0 = x1 at *
      generalize ys.getD m 0 = y1 at *
      go_wp2
      go_quiet (fail)
      go_wp2
      go_quiet (fail)
      go_wp2
      go_ret
      exact ⟨1, rfl, by rw [HV.out.1, HV.out.2] at HR; exact ⟨fun h => absurd h (Nat.lt_asymm HR.out), fun h => absurd h.symm (Nat.ne_of_lt HR.out), fun _ => by decide⟩, (HD.out.next _).next _⟩
   ·obtain rfl : n = 0 := by omega
    have HE := Lib.hid ((val_cmp HL.out HO.out.1 HO.out.2 0 (Nat.zero_le _) he.out).2.2 (by simp))
    go_wp2
    go_ret
    exact ⟨0, rfl, by rw [HV.out.1, HV.out.2] at HE; have := HE.out; exact ⟨fun h => absurd this (Nat.ne_of_lt h), fun _ => rfl, fun h => absurd this.symm (Nat.ne_of_lt h)⟩, HD.out⟩
 ·have heq : ((xs.length : Int) != (ys.length : Int)) = true := by simp; omega
  have HR : Hid (CmpR x y ((xs.length : Int) - (ys.length : Int))) := Lib.hid (by
   rcases Nat.lt_or_gt_of_ne hlen with h | h
   ·have := l1 h
    exact ⟨fun _ => by omega, fun _ => by omega, fun _ => by omega⟩
   ·have := l2 h
    exact ⟨fun _ => by omega, fun _ => by omega, fun _ => by omega⟩)
  clear hx hy vx vy ox oy l1 l2 hlen hxs hys
  go_enter Tryz.func132, Tryz.ntmps132
  go_wp2
  go_ret
  exact ⟨_, rfl, HR.out, Drawn.refl _⟩
theorem u64_or (a b : Nat) (ha : a < 18446744073709551616) (hb : b < 18446744073709551616) : bits .or .u64 (a : Int) (b : Int) = ((a ||| b : Nat) : Int) := by
 have hx : a ||| b < 2 ^ 64 := Nat.or_lt_two_pow (by omega) (by omega)
 have e : ∀ z : Nat, z < 18446744073709551616 → (BitVec.ofInt 64 (z : Int)).toNat = z := fun z hz => by
  rw [BitVec.ofInt_natCast, BitVec.toNat_ofNat]; exact Nat.mod_eq_of_lt (by omega)
 show IntKind.u64.wrap ((BitVec.ofInt 64 (a : Int) ||| BitVec.ofInt 64 (b : Int)).toNat : Int) = _
 rw [BitVec.toNat_or, e a ha, e b hb, IntKind.wrap_u64]
 omega
theorem wrap64_nat (x : Nat) (h : x < 9223372036854775808) : wrap64 (x : Int) = (x : Int) := by
 unfold wrap64
 omega
theorem or_digit (z y : Nat) (hz : z < 4294967296) (hy : y < 4294967296) : bits .or .u64 (z : Int) ((y : Int) * 4294967296) = ((z + 4294967296 * y : Nat) : Int) := by
 have h := u64_or z (y * 4294967296) (by omega) (by omega)
 rw [show ((y * 4294967296 : Nat) : Int) = (y : Int) * 4294967296 by omega] at h
 rw [h]
 have e := Nat.shiftLeft_add_eq_or_of_lt (show z < 2 ^ 32 by omega) y
 rw [Nat.shiftLeft_eq, show (2 : Nat) ^ 32 = 4294967296 from rfl] at e
 rw [Nat.or_comm, ← e, Nat.add_comm z, Nat.mul_comm 4294967296]
set_option maxHeartbeats 1000000 in
theorem small_yes (x : Nat) (A : Option Addr) (c B : Nat) (w : World) (hx : RdU w B A (natL x)) (h : x ≤ 1000000000000000000) :
  Calls Tryz.prog 126 #[.slice A (natL x).length c] w fun e w' => e = .returned (.tuple #[.int .i64 (x : Int), .bool true]) ∧ w = w' := by
 have hlen : (natL x).length ≤ 2 := natL_len_le (by unfold B32; omega)
 have ok := natL_ok x
 have hv := natL_val x
 have HX := Lib.hid hx
 generalize hxs : natL x = xs at *
 have HV := Lib.hid hv
 have HO := Lib.hid ok
 clear hx hv ok hxs
 go_enter Tryz.func126, Tryz.ntmps126
 go_wp2
 go_loop [12, 4] (fun iv nv => ∃ k : Nat, k ≤ xs.length ∧ iv = .int .i64 (k : Int) ∧ nv = .int .u64 ((val (xs.take k) : Nat) : Int)) (fun iv _ => xs.length - (intOf iv).toNat)
 case atStart => exact ⟨0, Nat.zero_le _, rfl, rfl⟩
 case round =>
  obtain ⟨k, hk, rfl, rfl⟩ := hrel
  by_cases hlt : k < xs.length
  ·have hx1 : xs.getD k 0 < B32 := HO.out _ (by simp [List.getD, hlt])
   obtain ⟨b, off, rfl, _, hc⟩ := HX.out (by omega)
   have g := hc k hlt
   clear hc
   have HS := Lib.hid (val_take_succ xs k hlt)
   have hk2 : k = 0 ∨ k = 1 := by omega
   rcases hk2 with rfl | rfl
   ·rw [List.take_zero, show val ([] : List Nat) = 0 from rfl] at HS ⊢
    rw [Nat.add_zero] at g
    unfold B32 at hx1
    generalize xs.getD 0 0 = y at *
    have HO2 := Lib.hid (or_digit 0 y (by decide) hx1)
    have HO1 := Lib.hid (u64_or 0 y (by decide) (by omega))
    go_wp2
    go_round
    case rel => exact ⟨1, by omega, rfl, by rw [HS.out]; have := HO1.out; rw [Nat.zero_or] at this; rw [show ((0 : Nat) : Int) = 0 from rfl] at this; rw [this]; simp⟩
    case measure => simp [intOf]; omega
   ·unfold B32 at hx1
    have hz1 : val (xs.take 1) < B32 := by
     have := val_lt _ (okN_take HO.out 1)
     rw [List.length_take, Nat.min_eq_left (by omega)] at this
     simpa using this
    unfold B32 at hz1
    generalize xs.getD 1 0 = y at *
    generalize val (xs.take 1) = z at *
    have HO2 := Lib.hid (or_digit z y hz1 hx1)
    go_wp2
    go_round
    case rel => exact ⟨2, by omega, rfl, by rw [HS.out, HO2.out]; rfl⟩
    case measure => simp [intOf]; omega
  ·obtain rfl : k = xs.length := by omega
   have hvx : val (xs.take xs.length) = x := by rw [List.take_of_length_le (Nat.le_refl _)]; exact HV.out
   rw [hvx]
   have HA := Lib.hid (u64_and_nat x 9223372036854775807 (by omega) (by decide))
   have hax : x &&& 9223372036854775807 = x := by
    rw [show (9223372036854775807 : Nat) = 2 ^ 63 - 1 from rfl, Nat.and_two_pow_sub_one_eq_mod, Nat.mod_eq_of_lt (by omega)]
   have hw : wrap64 (bits BinOp.and IntKind.u64 (x : Int) 9223372036854775807) = (x : Int) := by
    have h1 := HA.out
    rw [hax] at h1
    rw [show (9223372036854775807 : Int) = ((9223372036854775807 : Nat) : Int) from rfl, h1]
    exact wrap64_nat x (by omega)
   have HX2 := Lib.hid hw
   have hle : decide ((x : Int) ≤ 1000000000000000000) = true := decide_eq_true (by omega)
   clear hvx hax hw
   go_wp2
   go_ret2
   exact ⟨by show Ending.returned (Value.tuple #[.int .i64 (wrap64 (bits BinOp.and IntKind.u64 (x : Int) 9223372036854775807)), .bool true]) = _; rw [HX2.out], rfl⟩
end Go.Proofs.YtcimmgpmkfbpdaaGreatDoor.Nat32
namespace Go.Proofs.YtcimmgpmkfbpdaaGreatDoor.Nat32
open Go.RowKit Go.Proofs.YtcimmgpmkfbpdaaGreatDoor Go.Proofs.YtcimmgpmkfbpdaaGreatDoor.Base Go.Proofs.YtcimmgpmkfbpdaaGreatDoor.Mem Go.Proofs.YtcimmgpmkfbpdaaGreatDoor.NatM
set_option linter.unusedVariables false
def us (xs : List Nat) : List Value := xs.map fun (x : Nat) => Value.int .u32 (x : Int)
theorem us_len (xs : List Nat) : (us xs).length = xs.length := by simp [us]
theorem us_get (xs : List Nat) (i : Nat) (h : i < xs.length) : (us xs)[i]? = some (.int .u32 ((xs.getD i 0 : Nat) : Int)) := by simp [us, List.getD, h]
theorem us_set (xs : List Nat) (i x : Nat) : (us xs).set i (.int .u32 (x : Int)) = us (xs.set i x) := by simp [us, List.map_set]
def OwnU (w : World) (B : Nat) (v : Value) (xs : List Nat) : Prop := w.ownsRow B 170 1 v xs.length (us xs)
theorem OwnU.form {w : World} {B : Nat} {v : Value} {xs : List Nat} (h : OwnU w B v xs) : ∃ A c, v = .slice A xs.length c ∧ (0 < xs.length → ∃ g, A = some ⟨g, 0, none⟩ ∧ B ≤ g ∧ g < w.heap.size) := ownsRow_form h
theorem OwnU.rd {w : World} {B n c : Nat} {A : Option Addr} {xs : List Nat} (h : OwnU w B (.slice A n c) xs) : RdU w w.heap.size A xs := fun h0 => by
 obtain ⟨A', c', e, hf⟩ := ownsRow_form h
 injection e with e1 e2 e3
 subst e1 e2 e3
 obtain ⟨g, rfl, _, hlt⟩ := hf h0
 refine ⟨g, 0, rfl, hlt, fun i hi => ?_⟩
 have h' : w.ownsRow B 170 1 (.slice (some ⟨g, 0, none⟩) xs.length c) xs.length (us xs) := h
 rw [Nat.zero_add, World.ownsRow.cellAt h' i (by omega), us_get xs i hi]
theorem OwnU.below {w w' : World} {B : Nat} {v : Value} {xs : List Nat} (h : OwnU w B v xs) (hb : Below w.heap.size w w') : OwnU w' B v xs := ownsRow_below h hb
theorem OwnU.set {w : World} {B g n c : Nat} {xs : List Nat} (h : OwnU w B (.slice (some ⟨g, 0, none⟩) n c) xs) (hn : xs.length = n) (i x : Nat) :
  OwnU (w.setCell ⟨g, i, none⟩ (.int .u32 (x : Int))) B (.slice (some ⟨g, 0, none⟩) n c) (xs.set i x) ∧ w.grownBy (w.setCell ⟨g, i, none⟩ (.int .u32 (x : Int))) (some g) := by
 subst hn
 unfold OwnU at *
 obtain ⟨h1, h2⟩ := h.stored i (.int .u32 (x : Int))
 rw [us_set] at h1
 rw [List.length_set]
 exact ⟨h1, h2⟩
theorem OwnU.cell {w : World} {B g n c : Nat} {xs : List Nat} (h : OwnU w B (.slice (some ⟨g, 0, none⟩) n c) xs) (hn : xs.length = n) (i : Nat) (hi : i < n) :
  w.cell? ⟨g, i, none⟩ = some (.int .u32 ((xs.getD i 0 : Nat) : Int)) ∧ w.frozen? ⟨g, i, none⟩ = false := by
 subst hn
 have h' : w.ownsRow B 170 1 (.slice (some ⟨g, 0, none⟩) xs.length c) xs.length (us xs) := h
 exact ⟨by rw [World.ownsRow.cellAt h' i (by omega), us_get xs i hi], h'.frozenAt i⟩
theorem OwnU.ge {w : World} {B g n c : Nat} {xs : List Nat} (h : OwnU w B (.slice (some ⟨g, 0, none⟩) n c) xs) : B ≤ g ∧ g < w.heap.size := by
 obtain ⟨_, _, h1, h2⟩ := ownsRow_block (g := g) h rfl
 exact ⟨h1, h2⟩
theorem infoU : (Tryz.prog.info? 170).map (fun i => (i.zero, i.size, i.bytes)) = some (some (.int .u32 0), 1, 4) := by kernel_rfl
def zerosU (n : Nat) : List Nat := List.replicate n 0
theorem made_own (w : World) (n : Nat) (hn : n ≤ 10000000) : OwnU (w.alloc (.cells (madeCells #[.int .u32 0] n) 170)) w.heap.size (.slice (some ⟨w.heap.size, 0, none⟩) n n) (zerosU n) := by
 have := World.ownsRow_lit (e := 170) (size := 1) (base := w.heap.size) w (madeCells #[.int .u32 0] n) n (Nat.le_refl _) (by simp [maxLen]; omega) (by simp [size_madeCells])
 rw [toList_madeCells_one] at this
 unfold OwnU zerosU
 rw [List.length_replicate, show us (List.replicate n 0) = List.replicate n (.int .u32 0) by simp [us]]
 exact this
theorem val_set (ys : List Nat) (i x : Nat) (h : i < ys.length) : val ((ys.set i x).take (i + 1)) = val (ys.take i) + B32 ^ i * x := by
 rw [val_take_succ _ i (by rw [List.length_set]; exact h)]
 have e1 : (ys.set i x).take i = ys.take i := by rw [List.take_set, List.set_eq_of_length_le (by rw [List.length_take]; omega)]
 rw [e1]
 simp [List.getD, h]
theorem okN_set {ys : List Nat} {i x : Nat} (h : i < ys.length) (ho : okN (ys.take i)) (hx : x < B32) : okN ((ys.set i x).take (i + 1)) := by
 have e : (ys.set i x).take (i + 1) = ys.take i ++ [x] := by
  rw [List.take_succ_eq_append_getElem (by rw [List.length_set]; exact h)]
  rw [List.take_set, List.set_eq_of_length_le (by rw [List.length_take]; omega)]
  simp
 rw [e]
 intro y hy
 rcases List.mem_append.1 hy with hy | hy
 ·exact ho y hy
 ·simp only [List.mem_singleton] at hy; rw [hy]; exact hx
theorem up_step {v C x P i vx : Nat} (hC : C < P) (hx : x < B32) (h : v + B32 ^ i * C = vx * P) :
  (C + x * P) / B32 < P ∧ v + B32 ^ i * ((C + x * P) % B32) + B32 ^ (i + 1) * ((C + x * P) / B32) = (vx + B32 ^ i * x) * P := by
 refine ⟨?_, ?_⟩
 ·rw [Nat.div_lt_iff_lt_mul (by decide)]
  have h1 : x * P ≤ (B32 - 1) * P := Nat.mul_le_mul_right _ (by omega)
  rw [Nat.sub_mul, Nat.one_mul] at h1
  have h2 : P ≤ B32 * P := Nat.le_mul_of_pos_left _ (by decide)
  rw [Nat.mul_comm P B32]
  omega
 ·have h3 := Nat.mod_add_div (C + x * P) B32
  rw [Nat.pow_succ, Nat.mul_assoc, Nat.add_assoc, ← Nat.mul_add, h3, Nat.mul_add, Nat.add_mul, ← h, Nat.mul_assoc]
  omega
def UpRel (g s : Nat) (xs : List Nat) (w : World) (iv cv : Value) (wr : World) : Prop :=
 ∃ (i C : Nat) (ys : List Nat), iv = .int .i64 (i : Int) ∧ i ≤ xs.length ∧ cv = .int .u64 (C : Int) ∧ ys.length = xs.length + 1 ∧ C < 2 ^ s ∧ Hid (okN (ys.take i)) ∧ Hid (val (ys.take i) + B32 ^ i * C = val (xs.take i) * 2 ^ s) ∧ Hid (OwnU wr w.heap.size (.slice (some ⟨g, 0, none⟩) (xs.length + 1) (xs.length + 1)) ys) ∧ Hid (Below w.heap.size w wr)
def UpRet (s : Nat) (xs : List Nat) (w : World) (e : Ending) (w' : World) : Prop :=
 ∃ (g : Nat) (ys : List Nat), e = .returned (.slice (some ⟨g, 0, none⟩) (xs.length + 1) (xs.length + 1)) ∧ ys.length = xs.length + 1 ∧ okN ys ∧ val ys = val xs * 2 ^ s ∧ OwnU w' w.heap.size (.slice (some ⟨g, 0, none⟩) (xs.length + 1) (xs.length + 1)) ys ∧ Below w.heap.size w w'
set_option maxHeartbeats 1000000 in
theorem up_any (A : Option Addr) (c B s : Nat) (xs : List Nat) (w : World) (hx : RdU w B A xs) (hB : B ≤ w.heap.size) (hok : okN xs) (hl : xs.length ≤ 4000000) (hs : s ≤ 31) :
  Calls Tryz.prog 155 #[.slice A xs.length c, .int .i64 (s : Int)] w (UpRet s xs w) := by
 have hmk := run_make_row' (P := Tryz.prog) 112 170 (.int .u32 0) 4 Tryz.underlying112 infoU rfl .i64 .i64 (xs.length + 1) (by omega) (by omega)
 have hcast : ((xs.length + 1 : Nat) : Int) = (xs.length : Int) + 1 := by omega
 rw [hcast] at hmk
 have HX := Lib.hid hx
 have HOk := Lib.hid hok
 have H0 : Hid (UpRel w.heap.size s xs w (.int .i64 0) (.int .u64 0) (w.alloc (.cells (madeCells #[.int .u32 0] (xs.length + 1)) 170))) :=
  Lib.hid ⟨0, 0, zerosU (xs.length + 1), rfl, Nat.zero_le _, rfl, by simp [zerosU], Nat.two_pow_pos s, Lib.hid (by intro y hy; simp at hy), Lib.hid (by simp [val]), Lib.hid (made_own w _ (by omega)), Lib.hid ((Below.refl _ _).alloc (Nat.le_refl _) _)⟩
 clear hx hok hcast
 go_enter Tryz.func155, Tryz.ntmps155
 go_wp2
 clear hmk
 go_loopw [15, 6] (fun iv cv wr => UpRel w.heap.size s xs w iv cv wr) (fun iv _ _ => xs.length - (intOf iv).toNat)
 case atStart => exact H0.out
 case round =>
  obtain ⟨i, C, ys, rfl, hi, rfl, hyl, hC, ho, hv, HO, HBl⟩ := hrel
  clear H0
  by_cases hlt : i < xs.length
  ·have hx1 : xs.getD i 0 < B32 := HOk.out _ (by simp [List.getD, hlt])
   obtain ⟨b, off, rfl, _, hc⟩ := (HX.out.below HBl.out hB) (by omega)
   have gx := hc i hlt
   clear hc
   obtain ⟨gc, gf⟩ := HO.out.cell hyl i (by omega)
   have hvx := val_take_succ xs i hlt
   obtain ⟨q1, q2⟩ := up_step (i := i) hC hx1 hv.out
   rw [← hvx] at q2
   have hP : 2 ^ s ≤ 2 ^ 31 := Nat.pow_le_pow_right (by decide) hs
   have hP0 : 0 < 2 ^ s := Nat.two_pow_pos s
   have hM : xs.getD i 0 * 2 ^ s < 9223372036854775808 := by
    have h1 : xs.getD i 0 * 2 ^ s ≤ 4294967295 * 2147483648 := Nat.mul_le_mul (by unfold B32 at hx1; omega) hP
    omega
   obtain ⟨M, hMe⟩ : ∃ M, M = xs.getD i 0 * 2 ^ s := ⟨_, rfl⟩
   have hor : C ||| M = C + M := by
    have e := Nat.shiftLeft_add_eq_or_of_lt hC (xs.getD i 0)
    rw [Nat.shiftLeft_eq, ← hMe] at e
    rw [Nat.or_comm, ← e, Nat.add_comm]
   have hmul : ((xs.getD i 0 : Nat) : Int) * (2 : Int) ^ s = (M : Int) := by rw [hMe]; simp
   have hbo : bits .or .u64 (C : Int) (M : Int) = ((C + M : Nat) : Int) := by rw [u64_or C M (by omega) (by omega), hor]
   rw [← hMe] at q1 q2 hM
   have hCM : C + M < 9223372036854775808 + 2147483648 := by omega
   have Q := Lib.hid (And.intro q1 q2)
   have HM := Lib.hid hM
   clear hvx hor hMe q1 q2 hP hP0
   unfold B32 at hx1
   generalize hS : C + M = S at *
   have HN : Hid (UpRel w.heap.size s xs w (.int .i64 ((i : Int) + 1)) (.int .u64 ((S : Int) / 4294967296)) (wr.setCell ⟨w.heap.size, i, none⟩ (.int .u32 ((S : Int) % 4294967296)))) := Lib.hid (by
    have e1 : ((S % B32 : Nat) : Int) = (S : Int) % 4294967296 := by simp [B32]
    have e2 : ((S / B32 : Nat) : Int) = (S : Int) / 4294967296 := by simp [B32]
    obtain ⟨o1, _⟩ := HO.out.set hyl i (S % B32)
    rw [e1] at o1
    refine ⟨i + 1, S / B32, ys.set i (S % B32), by go_num, hlt, by rw [e2], by rw [List.length_set]; exact hyl, Q.out.1, Lib.hid (okN_set (by omega) ho.out (Nat.mod_lt _ (by decide))), Lib.hid ?_, Lib.hid o1, Lib.hid (HBl.out.setCell (Nat.le_refl _) _)⟩
    rw [val_set ys i _ (by omega)]
    exact Q.out.2)
   generalize xs.getD i 0 = x at *
   generalize ys.getD i 0 = y at *
   clear hS
   go_wp2
   go_roundw
   case rel => exact HN.out
   case measure => simp [intOf]; omega
  ·obtain rfl : i = xs.length := by omega
   obtain ⟨gc, gf⟩ := HO.out.cell hyl xs.length (by omega)
   have hP : 2 ^ s ≤ 2 ^ 31 := Nat.pow_le_pow_right (by decide) hs
   have hC32 : C < 4294967296 := by omega
   have HR : Hid (UpRet s xs w (.returned (.slice (some ⟨w.heap.size, 0, none⟩) (xs.length + 1) (xs.length + 1))) (wr.setCell ⟨w.heap.size, xs.length, none⟩ (.int .u32 (C : Int)))) := Lib.hid (by
    obtain ⟨o1, _⟩ := HO.out.set hyl xs.length C
    refine ⟨w.heap.size, ys.set xs.length C, rfl, by rw [List.length_set]; exact hyl, ?_, ?_, o1, HBl.out.setCell (Nat.le_refl _) _⟩
    ·have := okN_set (ys := ys) (i := xs.length) (x := C) (by omega) ho.out hC32
     rw [List.take_of_length_le (by rw [List.length_set]; omega)] at this
     exact this
    ·have := val_set ys xs.length C (by omega)
     rw [List.take_of_length_le (by rw [List.length_set]; omega), hv.out, List.take_of_length_le (Nat.le_refl _)] at this
     exact this)
   generalize ys.getD xs.length 0 = y at *
   clear hP
   go_wp2
   go_ret
   exact HR.out
end Go.Proofs.YtcimmgpmkfbpdaaGreatDoor.Nat32
namespace Go.Proofs.YtcimmgpmkfbpdaaGreatDoor.Nat32
open Go.RowKit Go.Proofs.YtcimmgpmkfbpdaaGreatDoor Go.Proofs.YtcimmgpmkfbpdaaGreatDoor.Base Go.Proofs.YtcimmgpmkfbpdaaGreatDoor.Mem Go.Proofs.YtcimmgpmkfbpdaaGreatDoor.NatM
set_option linter.unusedVariables false
theorem val_take_any (ys : List Nat) (i : Nat) : val (ys.take (i + 1)) = val (ys.take i) + B32 ^ i * ys.getD i 0 := by
 rcases Nat.lt_or_ge i ys.length with h | h
 ·exact val_take_succ ys i h
 ·rw [List.take_of_length_le (by omega), List.take_of_length_le h]
  have : ys.getD i 0 = 0 := by simp [List.getD, h]
  rw [this]; simp
theorem sub_step {i vo vy vx b b' D x y : Nat} (h : vo + vy = vx + B32 ^ i * b) (hD : D + y + b = x + B32 * b') :
  (vo + B32 ^ i * D) + (vy + B32 ^ i * y) = (vx + B32 ^ i * x) + B32 ^ (i + 1) * b' := by
 have e : B32 ^ i * D + B32 ^ i * y + B32 ^ i * b = B32 ^ i * x + B32 ^ (i + 1) * b' := by
  rw [← Nat.mul_add, ← Nat.mul_add, hD, Nat.mul_add, Nat.pow_succ, Nat.mul_assoc]
 omega
def SubRel (g : Nat) (xs ys : List Nat) (w : World) (iv bv : Value) (wr : World) : Prop :=
 ∃ (i b : Nat) (zs : List Nat), iv = .int .i64 (i : Int) ∧ i ≤ xs.length ∧ bv = .int .i64 (b : Int) ∧ b ≤ 1 ∧ zs.length = xs.length ∧ Hid (okN (zs.take i)) ∧ Hid (val (zs.take i) + val (ys.take i) = val (xs.take i) + B32 ^ i * b) ∧ Hid (OwnU wr w.heap.size (.slice (some ⟨g, 0, none⟩) xs.length xs.length) zs) ∧ Hid (Below w.heap.size w wr)
def NNew (x : Nat) (w : World) (e : Ending) (w' : World) : Prop := ∃ g c, e = .returned (.slice (some ⟨g, 0, none⟩) (natL x).length c) ∧ w.heap.size ≤ g ∧ RdU w' w'.heap.size (some ⟨g, 0, none⟩) (natL x) ∧ Below w.heap.size w w'
theorem NNew.ret {x : Nat} {w w' : World} {e : Ending} (h : NNew x w e w') : NRet x w e w' := by
 obtain ⟨g, c, e1, _, h1, h2⟩ := h
 exact ⟨_, c, e1, h1, h2⟩
set_option maxHeartbeats 2000000 in
theorem minus_new (A A' : Option Addr) (c c' B B' : Nat) (xs ys : List Nat) (w : World) (hx : RdU w B A xs) (hB : B ≤ w.heap.size) (hy : RdU w B' A' ys) (hB' : B' ≤ w.heap.size) (hok : okN xs) (hok' : okN ys) (hl : xs.length ≤ 4000000) (hl' : ys.length ≤ xs.length) (hle : val ys ≤ val xs) :
  Calls Tryz.prog 133 #[.slice A xs.length c, .slice A' ys.length c'] w (NNew (val xs - val ys) w) := by
 have hmk := run_make_row' (P := Tryz.prog) 112 170 (.int .u32 0) 4 Tryz.underlying112 infoU rfl .i64 .i64 xs.length (by omega) (by omega)
 have HX := Lib.hid hx
 have HY := Lib.hid hy
 have HOk := Lib.hid hok
 have HOk' := Lib.hid hok'
 have HLe := Lib.hid hle
 have H0 : Hid (SubRel w.heap.size xs ys w (.int .i64 0) (.int .i64 0) (w.alloc (.cells (madeCells #[.int .u32 0] xs.length) 170))) :=
  Lib.hid ⟨0, 0, zerosU xs.length, rfl, Nat.zero_le _, rfl, by omega, by simp [zerosU], Lib.hid (by intro y hy; simp at hy), Lib.hid (by simp [val]), Lib.hid (made_own w _ (by omega)), Lib.hid ((Below.refl _ _).alloc (Nat.le_refl _) _)⟩
 clear hx hy hok hok' hle
 go_enter Tryz.func133, Tryz.ntmps133
 go_wp2
 clear hmk
 go_loopw [14, 6] (fun iv bv wr => SubRel w.heap.size xs ys w iv bv wr) (fun iv _ _ => xs.length - (intOf iv).toNat)
 case atStart => exact H0.out
 case round =>
  obtain ⟨i, b, zs, rfl, hi, rfl, hb1, hzl, ho, hv, HO, HBl⟩ := hrel
  clear H0
  by_cases hlt : i < xs.length
  ·have hx1 : xs.getD i 0 < B32 := HOk.out _ (by simp [List.getD, hlt])
   obtain ⟨bb, off, rfl, _, hc⟩ := (HX.out.below HBl.out hB) (by omega)
   have gx := hc i hlt
   clear hc
   obtain ⟨gc, gf⟩ := HO.out.cell hzl i (by omega)
   have hvx := val_take_any xs i
   have hvy := val_take_any ys i
   have hy1 : ys.getD i 0 < B32 := by
    rcases Nat.lt_or_ge i ys.length with h | h
    ·exact HOk'.out _ (by simp [List.getD, h])
    ·rw [show ys.getD i 0 = 0 by simp [List.getD, h]]; decide
   have HN := Lib.hid (fun (D b' : Nat) (hb' : b' ≤ 1) (hD : D < B32) (hDe : D + ys.getD i 0 + b = xs.getD i 0 + B32 * b') => (show SubRel w.heap.size xs ys w (.int .i64 ((i : Int) + 1)) (.int .i64 (b' : Int)) (wr.setCell ⟨w.heap.size, i, none⟩ (.int .u32 (D : Int))) from by
    obtain ⟨o1, _⟩ := HO.out.set hzl i D
    refine ⟨i + 1, b', zs.set i D, by go_num, hlt, rfl, hb', by rw [List.length_set]; exact hzl, Lib.hid (okN_set (by omega) ho.out hD), Lib.hid ?_, Lib.hid o1, Lib.hid (HBl.out.setCell (Nat.le_refl _) _)⟩
    rw [val_set zs i _ (by omega), hvx, hvy]
    exact sub_step hv.out hDe))
   clear hvx hvy
   unfold B32 at hx1 hy1
   unfold B32 at HN
   by_cases hiy : i < ys.length
   ·obtain ⟨bb2, off2, rfl, _, hc2⟩ := (HY.out.below HBl.out hB') (by omega)
    have gy := hc2 i hiy
    clear hc2
    generalize xs.getD i 0 = x at *
    generalize ys.getD i 0 = y at *
    generalize zs.getD i 0 = z at *
    by_cases hneg : (x : Int) - (b : Int) - (y : Int) < 0
    ·have HN2 := Lib.hid (HN.out (x + 4294967296 - b - y) 1 (by omega) (by omega) (by omega))
     have e1 : ((x + 4294967296 - b - y : Nat) : Int) = (x : Int) - (b : Int) - (y : Int) + 4294967296 := by omega
     rw [e1] at HN2
     clear HN e1
     go_wp2
     go_roundw
     case rel => exact HN2.out
     case measure => simp [intOf]; omega
    ·have HN2 := Lib.hid (HN.out (x - b - y) 0 (by omega) (by omega) (by omega))
     have e1 : ((x - b - y : Nat) : Int) = (x : Int) - (b : Int) - (y : Int) := by omega
     rw [e1] at HN2
     clear HN e1
     go_wp2
     go_roundw
     case rel => exact HN2.out
     case measure => simp [intOf]; omega
   ·have hy0 : ys.getD i 0 = 0 := by
     have : ys.length ≤ i := by omega
     simp [List.getD, this]
    rw [hy0] at HN
    clear hy0
    generalize xs.getD i 0 = x at *
    generalize zs.getD i 0 = z at *
    by_cases hneg : (x : Int) - (b : Int) < 0
    ·have HN2 := Lib.hid (HN.out (x + 4294967296 - b) 1 (by omega) (by omega) (by omega))
     have e1 : ((x + 4294967296 - b : Nat) : Int) = (x : Int) - (b : Int) + 4294967296 := by omega
     rw [e1] at HN2
     clear HN e1
     go_wp2
     go_roundw
     case rel => exact HN2.out
     case measure => simp [intOf]; omega
    ·have HN2 := Lib.hid (HN.out (x - b) 0 (by omega) (by omega) (by omega))
     have e1 : ((x - b : Nat) : Int) = (x : Int) - (b : Int) := by omega
     rw [e1] at HN2
     clear HN e1
     go_wp2
     go_roundw
     case rel => exact HN2.out
     case measure => simp [intOf]; omega
  ·obtain rfl : i = xs.length := by omega
   have hok2 : okN zs := by have := ho.out; rwa [List.take_of_length_le (by omega)] at this
   have hv2 : val zs = val xs - val ys := by
    have h1 := hv.out
    rw [List.take_of_length_le (by omega), List.take_of_length_le hl', List.take_of_length_le (Nat.le_refl _)] at h1
    have h2 := val_lt zs hok2
    rw [hzl] at h2
    have h3 := HLe.out
    have hb01 : b = 0 ∨ b = 1 := by omega
    rcases hb01 with rfl | rfl
    ·omega
    ·rw [Nat.mul_one] at h1; omega
   have hk := natL_take hok2
   have HT := Lib.hid (trim_any (some ⟨w.heap.size, 0, none⟩) xs.length wr.heap.size zs wr HO.out.rd hok2 (by omega) (by omega) (by omega))
   rw [hzl] at HT
   have HR : Hid (NNew (val zs) w (.returned (.slice (some ⟨w.heap.size, 0, none⟩) (natL (val zs)).length xs.length)) wr) := Lib.hid ⟨w.heap.size, xs.length, rfl, Nat.le_refl _, by have := HO.out.rd.take hk.2; rwa [hk.1] at this, HBl.out⟩
   rw [hv2] at HT HR
   clear hok2 hv2 hk
   go_wp2_with fail
   refine HT.out.mono ?_
   rintro e w1 ⟨rfl, rfl⟩
   go_wp2
   go_ret
   exact HR.out
theorem minus_any (A A' : Option Addr) (c c' B B' : Nat) (xs ys : List Nat) (w : World) (hx : RdU w B A xs) (hB : B ≤ w.heap.size) (hy : RdU w B' A' ys) (hB' : B' ≤ w.heap.size) (hok : okN xs) (hok' : okN ys) (hl : xs.length ≤ 4000000) (hl' : ys.length ≤ xs.length) (hle : val ys ≤ val xs) :
  Calls Tryz.prog 133 #[.slice A xs.length c, .slice A' ys.length c'] w (NRet (val xs - val ys) w) :=
 (minus_new A A' c c' B B' xs ys w hx hB hy hB' hok hok' hl hl' hle).mono fun _ _ h => h.ret
end Go.Proofs.YtcimmgpmkfbpdaaGreatDoor.Nat32

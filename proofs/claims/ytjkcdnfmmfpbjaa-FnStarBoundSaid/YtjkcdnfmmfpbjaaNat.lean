/- The program's naturals in memory: trim, naturalOf, compare, small. -/
import Derived.Test.YtjkcdnfmmfpbjaaNatMath
import Derived.Test.YtjkcdnfmmfpbjaaMem
import Derived.Test.YtjkcdnfmmfpbjaaBits
import Derived.Deep.QuietTactic
import Derived.BigQuiet
namespace Go.Proofs.Ytjkcdnfmmfpbjaa.Nat32
open Go.RowKit Go.Proofs.Ytjkcdnfmmfpbjaa Go.Proofs.Ytjkcdnfmmfpbjaa.Base Go.Proofs.Ytjkcdnfmmfpbjaa.Mem Go.Proofs.Ytjkcdnfmmfpbjaa.NatM
set_option linter.unusedVariables false
/-- digits that are read, in a block below B -/
def RdU (w : World) (B : Nat) (A : Option Addr) (xs : List Nat) : Prop :=
  0 < xs.length → ∃ b off, A = some ⟨b, off, none⟩ ∧ b < B ∧ ∀ i, i < xs.length → w.cell? ⟨b, off + i, none⟩ = some (.int .u32 ((xs.getD i 0 : Nat) : Int))
theorem RdU.below {w w' : World} {B C : Nat} {A : Option Addr} {xs : List Nat} (h : RdU w B A xs) (hb : Below C w w') (hBC : B ≤ C) : RdU w' B A xs := fun h0 => by
  obtain ⟨b, off, e, hlt, hc⟩ := h h0
  exact ⟨b, off, e, hlt, fun i hi => (hb.cell (p := ⟨b, off + i, none⟩) (by show b < C; omega)).trans (hc i hi)⟩
theorem RdU.more {w : World} {B C : Nat} {A : Option Addr} {xs : List Nat} (h : RdU w B A xs) (hBC : B ≤ C) : RdU w C A xs := fun h0 => by
  obtain ⟨b, off, e, hlt, hc⟩ := h h0
  exact ⟨b, off, e, by omega, hc⟩
theorem RdU.take {w : World} {B n : Nat} {A : Option Addr} {xs : List Nat} (h : RdU w B A xs) (hn : n ≤ xs.length) : RdU w B A (xs.take n) := fun h0 => by
  rw [List.length_take, Nat.min_eq_left hn] at h0
  obtain ⟨b, off, e, hlt, hc⟩ := h (by omega)
  refine ⟨b, off, e, hlt, fun i hi => ?_⟩
  rw [List.length_take, Nat.min_eq_left hn] at hi
  rw [hc i (by omega)]
  simp [List.getD, hi]
theorem RdU.drewN {w : World} {B : Nat} {A : Option Addr} {xs : List Nat} (h : RdU w B A xs) (n : Nat) : RdU (w.drewN n) B A xs := h.below (below_drewN (Below.refl B w) n) (Nat.le_refl _)
/-- a natural that is returned -/
def NRet (x : Nat) (w : World) (e : Ending) (w' : World) : Prop := ∃ A c, e = .returned (.slice A (natL x).length c) ∧ RdU w' w'.heap.size A (natL x) ∧ Below w.heap.size w w'
/-- trim: the digits at the end that are 0 go; the memory stays -/
def TrimRet (A : Option Addr) (c x : Nat) (w : World) (e : Ending) (w' : World) : Prop := e = .returned (.slice A (natL x).length c) ∧ w = w'
set_option maxHeartbeats 1000000 in
theorem trim_any (A : Option Addr) (c B : Nat) (xs : List Nat) (w : World) (hx : RdU w B A xs) (hok : okN xs) (hl : xs.length ≤ 10000000) (hc : xs.length ≤ c) (hc2 : c ≤ 9223372036854775807) :
    Calls Try.prog 93 #[.slice A xs.length c] w (TrimRet A c (val xs) w) := by
  have HX := Lib.hid hx
  have HOk := Lib.hid hok
  have h0 : Hid (val (xs.take xs.length) = val xs) := Lib.hid (by rw [List.take_of_length_le (Nat.le_refl _)])
  clear hx hok
  go_enter Try.func93, Try.ntmps93
  go_wp2
  go_loop [3] (fun nv => ∃ n : Nat, n ≤ xs.length ∧ nv = .int .i64 (n : Int) ∧ Hid (val (xs.take n) = val xs)) (fun nv => (intOf nv).toNat)
  case atStart => exact ⟨xs.length, Nat.le_refl _, rfl, h0⟩
  case round =>
    obtain ⟨n, hn, rfl, hv⟩ := hrel
    clear h0
    by_cases hpos : 0 < n
    · obtain ⟨m, rfl⟩ : ∃ m, n = m + 1 := ⟨n - 1, by omega⟩
      obtain ⟨b, off, rfl, _, hcell⟩ := HX.out (by omega)
      have g := hcell m (by omega)
      clear hcell
      by_cases hz : xs.getD m 0 = 0
      · have HN := Lib.hid (trim_step hn hv.out hz)
        rw [hz] at g
        clear hz
        go_wp2
        go_round
        case rel => exact ⟨m, by omega, rfl, HN⟩
        case measure => simp [intOf]
      · have HT := Lib.hid (trim_done HOk.out hn hv.out (.inr (by simpa using hz)))
        have hlen : Hid ((natL (val xs)).length = m + 1) := Lib.hid (by rw [← HT.out, List.length_take, Nat.min_eq_left hn])
        have hzb : (((xs.getD m 0 : Nat) : Int) == 0) = false := by simp only [beq_eq_false_iff_ne]; omega
        have hmc : ((m : Int) + 1 ≤ (c : Int)) := by omega
        clear hz
        generalize xs.getD m 0 = y at *
        go_wp2
        go_ret
        exact ⟨by rw [hlen.out]; rfl, rfl⟩
    · obtain rfl : n = 0 := by omega
      have HT := Lib.hid (trim_done HOk.out hn hv.out (.inl rfl))
      have hlen : Hid ((natL (val xs)).length = 0) := Lib.hid (by rw [← HT.out]; simp)
      rcases A with _ | ad
      · go_wp2
        go_ret
        exact ⟨by rw [hlen.out]; rfl, rfl⟩
      · go_wp2
        go_ret
        exact ⟨by rw [hlen.out]; rfl, rfl⟩
theorem NRet.of {x : Nat} {w w' : World} {A : Option Addr} {c : Nat} {xs : List Nat} (h : RdU w' w'.heap.size A xs) (hx : xs.take (natL x).length = natL x) (hl : (natL x).length ≤ xs.length) (hb : Below w.heap.size w w') : NRet x w (.returned (.slice A (natL x).length c)) w' :=
  ⟨A, c, rfl, by have := h.take hl; rwa [hx] at this, hb⟩
/-- the digits of a number are a beginning of digits with its value -/
theorem natL_take {xs : List Nat} (hok : okN xs) : xs.take (natL (val xs)).length = natL (val xs) ∧ (natL (val xs)).length ≤ xs.length := by
  have key : ∀ n, n ≤ xs.length → val (xs.take n) = val xs → xs.take (natL (val xs)).length = natL (val xs) ∧ (natL (val xs)).length ≤ xs.length := by
    intro n
    induction n with
    | zero =>
      intro hn hv
      have h := trim_done hok hn hv (.inl rfl)
      have hl : (natL (val xs)).length = 0 := by rw [← h]; simp
      rw [hl, h]
      exact ⟨rfl, Nat.zero_le _⟩
    | succ n ih =>
      intro hn hv
      by_cases hz : xs.getD n 0 = 0
      · exact ih (by omega) (trim_step hn hv hz)
      · have h := trim_done hok hn hv (.inr (by simpa using hz))
        have hl : (natL (val xs)).length = n + 1 := by rw [← h, List.length_take, Nat.min_eq_left hn]
        rw [hl, h]
        exact ⟨rfl, hn⟩
  exact key xs.length (Nat.le_refl _) (by rw [List.take_of_length_le (Nat.le_refl _)])
set_option maxHeartbeats 1000000 in
theorem naturalOf_any (n : Nat) (hn : n < 9223372036854775808) (w : World) : Calls Try.prog 77 #[.int .i64 (n : Int)] w (NRet n w) := by
  go_enter Try.func77, Try.ntmps77
  have hm : n % B32 < B32 := Nat.mod_lt _ (by decide)
  have hd : n / B32 < B32 := by unfold B32; omega
  have hok : okN [n % B32, n / B32] := by
    intro x hx
    simp only [List.mem_cons, List.not_mem_nil, or_false] at hx
    rcases hx with rfl | rfl
    · exact hm
    · exact hd
  have hv : val [n % B32, n / B32] = n := by
    simp only [val, Nat.mul_zero, Nat.add_zero]
    exact Nat.mod_add_div n B32
  have hW : RdU (w.alloc (.cells #[.int .u32 ((n : Int) % 4294967296), .int .u32 ((n : Int) / 4294967296)] 108)) (w.heap.size + 1) (some ⟨w.heap.size, 0, none⟩) [n % B32, n / B32] := fun _ => by
    refine ⟨w.heap.size, 0, rfl, Nat.lt_succ_self _, fun i hi => ?_⟩
    have hi2 : i < 2 := hi
    have : i = 0 ∨ i = 1 := by omega
    rcases this with rfl | rfl
    · rw [World.cell?_alloc_new]; simp [B32]
    · rw [World.cell?_alloc_new]; simp [B32]
  have HT := Lib.hid (trim_any (some ⟨w.heap.size, 0, none⟩) 2 (w.heap.size + 1) [n % B32, n / B32] _ hW hok (by simp) (by simp) (by decide))
  rw [hv] at HT
  have hB : Below w.heap.size w (w.alloc (.cells #[.int .u32 ((n : Int) % 4294967296), .int .u32 ((n : Int) / 4294967296)] 108)) := (Below.refl _ _).alloc (Nat.le_refl _) _
  have hk := natL_take hok
  rw [hv] at hk
  have HR := Lib.hid (NRet.of (x := n) (w := w) (c := 2) (hW.more (by simp)) hk.1 hk.2 hB)
  clear hm hd hok hv hW hB hk
  go_wp2_with fail
  refine HT.out.mono ?_
  rintro e w1 ⟨rfl, rfl⟩
  go_wp2
  go_ret
  exact HR.out
/-- what a comparison says -/
def CmpR (x y : Nat) (r : Int) : Prop := (x < y → r < 0) ∧ (x = y → r = 0) ∧ (y < x → 0 < r)
def CmpRet (x y : Nat) (w : World) (e : Ending) (w' : World) : Prop := ∃ r : Int, e = .returned (.int .i64 r) ∧ CmpR x y r ∧ Drawn w w'
set_option maxHeartbeats 1000000 in
theorem compare_any (x y : Nat) (A A' : Option Addr) (c c' B B' : Nat) (w : World) (hx : RdU w B A (natL x)) (hy : RdU w B' A' (natL y)) (hl : (natL x).length ≤ 10000000) (hl' : (natL y).length ≤ 10000000) :
    Calls Try.prog 102 #[.slice A (natL x).length c, .slice A' (natL y).length c'] w (CmpRet x y w) := by
  have HX := Lib.hid hx
  have HY := Lib.hid hy
  have vx := natL_val x
  have vy := natL_val y
  have ox := natL_ok x
  have oy := natL_ok y
  have l1 := @natL_len_lt x y
  have l2 := @natL_len_lt y x
  generalize hxs : natL x = xs at *
  generalize hys : natL y = ys at *
  have HV := Lib.hid (And.intro vx vy)
  have HO := Lib.hid (And.intro ox oy)
  by_cases hlen : xs.length = ys.length
  · have heq : ((xs.length : Int) != (ys.length : Int)) = false := by simp [hlen]
    have HL := Lib.hid hlen
    have hle : (ys.length : Int) = (xs.length : Int) := by omega
    have HLe := Lib.hid hle
    clear hx hy vx vy ox oy l1 l2 hlen hxs hys hle
    go_enter Try.func102, Try.ntmps102
    go_wp2
    go_loopw [5] (fun iv wr => ∃ n : Nat, n ≤ xs.length ∧ iv = .int .i64 ((n : Int) - 1) ∧ Hid (∀ j, n ≤ j → j < xs.length → xs.getD j 0 = ys.getD j 0) ∧ Drawn w wr) (fun iv _ => (intOf iv + 1).toNat)
    case atStart => exact ⟨xs.length, Nat.le_refl _, rfl, Lib.hid (fun j h1 h2 => absurd h2 (by omega)), Drawn.refl _⟩
    case round =>
      obtain ⟨n, hn, rfl, he, hD⟩ := hrel
      have HD := Lib.hid hD
      clear hD
      by_cases hpos : 0 < n
      · obtain ⟨m, rfl⟩ : ∃ m, n = m + 1 := ⟨n - 1, by omega⟩
        obtain ⟨b, off, rfl, _, hc⟩ := (HX.out.below (HD.out.below (B := B)) (Nat.le_refl _)) (by omega)
        obtain ⟨b', off', rfl, _, hc'⟩ := (HY.out.below (HD.out.below (B := B')) (Nat.le_refl _)) (by have := HL.out; omega)
        have g := hc m (by omega)
        have g' := hc' m (by have := HL.out; omega)
        have hmy : m < ys.length := by have := HL.out; omega
        clear hc hc'
        have e1 : (((m + 1 : Nat) : Int) - 1) = (m : Int) := by omega
        rw [e1]
        have i0 : (0 : Int) ≤ (m : Int) := Int.natCast_nonneg _
        have i1 : (m : Int) < (xs.length : Int) := by omega
        have i2 : (m : Int) < (ys.length : Int) := by omega
        clear e1
        by_cases hz : xs.getD m 0 = ys.getD m 0
        · have HN : Hid (∀ j, m ≤ j → j < xs.length → xs.getD j 0 = ys.getD j 0) := Lib.hid fun j h1 h2 => by
            rcases Nat.lt_or_ge m j with h | h
            · exact he.out j (by omega) h2
            · rw [show j = m by omega]; exact hz
          rw [hz] at g
          clear hz
          have hb : (((ys.getD m 0 : Nat) : Int) != ((ys.getD m 0 : Nat) : Int)) = false := by simp
          generalize ys.getD m 0 = y1 at *
          go_wp2
          go_quiet (fail)
          go_wp2
          go_roundw
          case rel => exact ⟨m, by omega, by congr 1, HN, HD.out.next _⟩
          case measure => simp [intOf]
        · rcases Nat.lt_or_gt_of_ne hz with hlt | hgt
          · have HR := Lib.hid (cmp_lt (n := m) HL.out HO.out.1 HO.out.2 (by omega) (fun j h1 h2 => he.out j h1 h2) hlt)
            have hb : (((xs.getD m 0 : Nat) : Int) != ((ys.getD m 0 : Nat) : Int)) = true := bne_iff_ne.2 (by omega)
            have hb2 : decide (((xs.getD m 0 : Nat) : Int) < ((ys.getD m 0 : Nat) : Int)) = true := decide_eq_true (by omega)
            have hb3 : decide (xs.getD m 0 < ys.getD m 0) = true := decide_eq_true hlt
            clear hz hlt
            generalize xs.getD m 0 = x1 at *
            generalize ys.getD m 0 = y1 at *
            go_wp2
            go_quiet (fail)
            go_wp2
            go_quiet (fail)
            go_wp2
            go_ret
            exact ⟨-1, rfl, by rw [HV.out.1, HV.out.2] at HR; exact ⟨fun _ => by decide, fun h => absurd h (Nat.ne_of_lt HR.out), fun h => absurd h (Nat.lt_asymm HR.out)⟩, (HD.out.next _).next _⟩
          · have HR := Lib.hid (cmp_lt (n := m) HL.out.symm HO.out.2 HO.out.1 (by omega) (fun j h1 h2 => (he.out j h1 (by have := HL.out; omega)).symm) hgt)
            have hb : (((xs.getD m 0 : Nat) : Int) != ((ys.getD m 0 : Nat) : Int)) = true := bne_iff_ne.2 (by omega)
            have hb2 : decide (((xs.getD m 0 : Nat) : Int) < ((ys.getD m 0 : Nat) : Int)) = false := decide_eq_false (by omega)
            have hb3 : decide (xs.getD m 0 < ys.getD m 0) = false := decide_eq_false (by omega)
            clear hz hgt
            generalize xs.getD m 0 = x1 at *
            generalize ys.getD m 0 = y1 at *
            go_wp2
            go_quiet (fail)
            go_wp2
            go_quiet (fail)
            go_wp2
            go_ret
            exact ⟨1, rfl, by rw [HV.out.1, HV.out.2] at HR; exact ⟨fun h => absurd h (Nat.lt_asymm HR.out), fun h => absurd h.symm (Nat.ne_of_lt HR.out), fun _ => by decide⟩, (HD.out.next _).next _⟩
      · obtain rfl : n = 0 := by omega
        have HE := Lib.hid ((val_cmp HL.out HO.out.1 HO.out.2 0 (Nat.zero_le _) he.out).2.2 (by simp))
        go_wp2
        go_ret
        exact ⟨0, rfl, by rw [HV.out.1, HV.out.2] at HE; have := HE.out; exact ⟨fun h => absurd this (Nat.ne_of_lt h), fun _ => rfl, fun h => absurd this.symm (Nat.ne_of_lt h)⟩, HD.out⟩
  · have heq : ((xs.length : Int) != (ys.length : Int)) = true := by simp; omega
    have HR : Hid (CmpR x y ((xs.length : Int) - (ys.length : Int))) := Lib.hid (by
      rcases Nat.lt_or_gt_of_ne hlen with h | h
      · have := l1 h
        exact ⟨fun _ => by omega, fun _ => by omega, fun _ => by omega⟩
      · have := l2 h
        exact ⟨fun _ => by omega, fun _ => by omega, fun _ => by omega⟩)
    clear hx hy vx vy ox oy l1 l2 hlen hxs hys
    go_enter Try.func102, Try.ntmps102
    go_wp2
    go_ret
    exact ⟨_, rfl, HR.out, Drawn.refl _⟩
theorem u64_or (a b : Nat) (ha : a < 18446744073709551616) (hb : b < 18446744073709551616) : bits .or .u64 (a : Int) (b : Int) = ((a ||| b : Nat) : Int) := by
  have hx : a ||| b < 2 ^ 64 := Nat.or_lt_two_pow (by omega) (by omega)
  have e : ∀ z : Nat, z < 18446744073709551616 → (BitVec.ofInt 64 (z : Int)).toNat = z := fun z hz => by
    rw [BitVec.ofInt_natCast, BitVec.toNat_ofNat]; exact Nat.mod_eq_of_lt (by omega)
  show IntKind.u64.wrap ((BitVec.ofInt 64 (a : Int) ||| BitVec.ofInt 64 (b : Int)).toNat : Int) = _
  rw [BitVec.toNat_or, e a ha, e b hb, IntKind.wrap_u64]
  omega
theorem wrap64_nat (x : Nat) (h : x < 9223372036854775808) : wrap64 (x : Int) = (x : Int) := by
  unfold wrap64
  omega
theorem or_digit (z y : Nat) (hz : z < 4294967296) (hy : y < 4294967296) : bits .or .u64 (z : Int) ((y : Int) * 4294967296) = ((z + 4294967296 * y : Nat) : Int) := by
  have h := u64_or z (y * 4294967296) (by omega) (by omega)
  rw [show ((y * 4294967296 : Nat) : Int) = (y : Int) * 4294967296 by omega] at h
  rw [h]
  have e := Nat.shiftLeft_add_eq_or_of_lt (show z < 2 ^ 32 by omega) y
  rw [Nat.shiftLeft_eq, show (2 : Nat) ^ 32 = 4294967296 from rfl] at e
  rw [Nat.or_comm, ← e, Nat.add_comm z, Nat.mul_comm 4294967296]
set_option maxHeartbeats 1000000 in
/-- a number of at most MaxPart -/
theorem small_yes (x : Nat) (A : Option Addr) (c B : Nat) (w : World) (hx : RdU w B A (natL x)) (h : x ≤ 1000000000000000000) :
    Calls Try.prog 80 #[.slice A (natL x).length c] w fun e w' => e = .returned (.tuple #[.int .i64 (x : Int), .bool true]) ∧ w = w' := by
  have hlen : (natL x).length ≤ 2 := natL_len_le (by unfold B32; omega)
  have ok := natL_ok x
  have hv := natL_val x
  have HX := Lib.hid hx
  generalize hxs : natL x = xs at *
  have HV := Lib.hid hv
  have HO := Lib.hid ok
  clear hx hv ok hxs
  go_enter Try.func80, Try.ntmps80
  go_wp2
  go_loop [12, 4] (fun iv nv => ∃ k : Nat, k ≤ xs.length ∧ iv = .int .i64 (k : Int) ∧ nv = .int .u64 ((val (xs.take k) : Nat) : Int)) (fun iv _ => xs.length - (intOf iv).toNat)
  case atStart => exact ⟨0, Nat.zero_le _, rfl, rfl⟩
  case round =>
    obtain ⟨k, hk, rfl, rfl⟩ := hrel
    by_cases hlt : k < xs.length
    · have hx1 : xs.getD k 0 < B32 := HO.out _ (by simp [List.getD, hlt])
      obtain ⟨b, off, rfl, _, hc⟩ := HX.out (by omega)
      have g := hc k hlt
      clear hc
      have HS := Lib.hid (val_take_succ xs k hlt)
      have hk2 : k = 0 ∨ k = 1 := by omega
      rcases hk2 with rfl | rfl
      · rw [List.take_zero, show val ([] : List Nat) = 0 from rfl] at HS ⊢
        rw [Nat.add_zero] at g
        unfold B32 at hx1
        generalize xs.getD 0 0 = y at *
        have HO2 := Lib.hid (or_digit 0 y (by decide) hx1)
        have HO1 := Lib.hid (u64_or 0 y (by decide) (by omega))
        go_wp2
        go_round
        case rel => exact ⟨1, by omega, rfl, by rw [HS.out]; have := HO1.out; rw [Nat.zero_or] at this; rw [show ((0 : Nat) : Int) = 0 from rfl] at this; rw [this]; simp⟩
        case measure => simp [intOf]; omega
      · unfold B32 at hx1
        have hz1 : val (xs.take 1) < B32 := by
          have := val_lt _ (okN_take HO.out 1)
          rw [List.length_take, Nat.min_eq_left (by omega)] at this
          simpa using this
        unfold B32 at hz1
        generalize xs.getD 1 0 = y at *
        generalize val (xs.take 1) = z at *
        have HO2 := Lib.hid (or_digit z y hz1 hx1)
        go_wp2
        go_round
        case rel => exact ⟨2, by omega, rfl, by rw [HS.out, HO2.out]; rfl⟩
        case measure => simp [intOf]; omega
    · obtain rfl : k = xs.length := by omega
      have hvx : val (xs.take xs.length) = x := by rw [List.take_of_length_le (Nat.le_refl _)]; exact HV.out
      rw [hvx]
      have HA := Lib.hid (u64_and_nat x 9223372036854775807 (by omega) (by decide))
      have hax : x &&& 9223372036854775807 = x := by
        rw [show (9223372036854775807 : Nat) = 2 ^ 63 - 1 from rfl, Nat.and_two_pow_sub_one_eq_mod, Nat.mod_eq_of_lt (by omega)]
      have hw : wrap64 (bits BinOp.and IntKind.u64 (x : Int) 9223372036854775807) = (x : Int) := by
        have h1 := HA.out
        rw [hax] at h1
        rw [show (9223372036854775807 : Int) = ((9223372036854775807 : Nat) : Int) from rfl, h1]
        exact wrap64_nat x (by omega)
      have HX2 := Lib.hid hw
      have hle : decide ((x : Int) ≤ 1000000000000000000) = true := decide_eq_true (by omega)
      clear hvx hax hw
      go_wp2
      go_ret2
      exact ⟨by show Ending.returned (Value.tuple #[.int .i64 (wrap64 (bits BinOp.and IntKind.u64 (x : Int) 9223372036854775807)), .bool true]) = _; rw [HX2.out], rfl⟩
end Go.Proofs.Ytjkcdnfmmfpbjaa.Nat32

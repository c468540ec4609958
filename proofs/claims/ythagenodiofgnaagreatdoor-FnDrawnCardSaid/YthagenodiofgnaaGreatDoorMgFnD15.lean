/- A number drawn from bits, of the program and of the reference. -/
import Derived.Test.YthagenodiofgnaaGreatDoorMgFnD05
import Derived.Test.YthagenodiofgnaaGreatDoorMgFnD00
import Derived.Deep.QuietTactic
import Derived.BigQuiet
namespace Go.Proofs.YthagenodiofgnaaGreatDoor.Dice
open Go.RowKit Go.Proofs.YthagenodiofgnaaGreatDoor Go.Proofs.YthagenodiofgnaaGreatDoor.Base Go.Proofs.YthagenodiofgnaaGreatDoor.Mem Go.Proofs.YthagenodiofgnaaGreatDoor.Bits
set_option linter.unusedVariables false
def bitAt (s : ByteArray) (u : Nat) : Nat := if h : u < s.size then s[u].toNat - 48 else 0
def diceR (n : Nat) (hn : 0 < n) (s : ByteArray) (v c u : Nat) : Option (Nat × Nat) :=
 if v < n then (if u < s.size then diceR n hn s (2 * v) (2 * c + bitAt s u) (u + 1) else none)
 else if c < n then some (c, u) else diceR n hn s (v - n) (c - n) u
termination_by (s.size - u, v)
def BitsS (s : ByteArray) : Prop := ∀ (u : Nat) (h : u < s.size), s[u].toNat = 48 ∨ s[u].toNat = 49
theorem diceR_step {n : Nat} {hn : 0 < n} {s : ByteArray} {v c u : Nat} (h1 : v < n) (h2 : u < s.size) : diceR n hn s v c u = diceR n hn s (2 * v) (2 * c + bitAt s u) (u + 1) := by
 rw [diceR]; simp [h1, h2]
theorem diceR_none {n : Nat} {hn : 0 < n} {s : ByteArray} {v c u : Nat} (h1 : v < n) (h2 : ¬ u < s.size) : diceR n hn s v c u = none := by
 rw [diceR]; simp [h1, h2]
theorem diceR_some {n : Nat} {hn : 0 < n} {s : ByteArray} {v c u : Nat} (h1 : ¬ v < n) (h2 : c < n) : diceR n hn s v c u = some (c, u) := by
 rw [diceR]; simp [h1, h2]
theorem diceR_less {n : Nat} {hn : 0 < n} {s : ByteArray} {v c u : Nat} (h1 : ¬ v < n) (h2 : ¬ c < n) : diceR n hn s v c u = diceR n hn s (v - n) (c - n) u := by
 conv => lhs; rw [diceR]
 simp [h1, h2]
def msr (L u v : Nat) : Nat := (L - u) * 4000000 + v
theorem msr_step {L u v n : Nat} (h1 : v < n) (hn : n ≤ 1000000) (h2 : u < L) : msr L (u + 1) (2 * v) < msr L u v := by
 unfold msr
 have : L - u = (L - (u + 1)) + 1 := by omega
 rw [this, Nat.add_mul]
 omega
theorem msr_less {L u v n : Nat} (h1 : ¬ v < n) (hn : 0 < n) : msr L u (v - n) < msr L u v := by
 unfold msr
 omega
theorem diceR_bd {n : Nat} {hn : 0 < n} {s : ByteArray} {a b : Nat} (hn2 : n ≤ 1000000) : ∀ (M v c u : Nat), msr s.size u v ≤ M → u ≤ s.size → diceR n hn s v c u = some (a, b) → a < n ∧ b ≤ s.size := by
 intro M
 induction M using Nat.strongRecOn with
 | _ M ih =>
  intro v c u hM hu h
  by_cases h1 : v < n
  ·by_cases h2 : u < s.size
   ·rw [diceR_step h1 h2] at h
    have hs := msr_step (L := s.size) h1 hn2 h2
    exact ih (msr s.size (u + 1) (2 * v)) (by omega) (2 * v) (2 * c + bitAt s u) (u + 1) (Nat.le_refl _) h2 h
   ·rw [diceR_none h1 h2] at h; cases h
  ·by_cases h2 : c < n
   ·rw [diceR_some h1 h2] at h
    injection h with h
    injection h with h3 h4
    subst h3 h4
    exact ⟨h2, hu⟩
   ·rw [diceR_less h1 h2] at h
    have hs := msr_less (L := s.size) (u := u) h1 hn
    exact ih (msr s.size u (v - n)) (by omega) (v - n) (c - n) u (Nat.le_refl _) hu h
def DiceRet (R : Option (Nat × Nat)) (w : World) (e : Ending) (w' : World) : Prop :=
 (∀ c u : Nat, R = some (c, u) → e = .returned (.tuple #[.int .i64 (c : Int), .int .i64 (u : Int), .bool true])) ∧ (R = none → e = .returned (.tuple #[.int .i64 0, .int .i64 0, .bool false])) ∧ Drawn w w'
theorem DiceRet.yes {R : Option (Nat × Nat)} {w w' : World} {e : Ending} {c u : Nat} (h : R = some (c, u)) (he : e = .returned (.tuple #[.int .i64 (c : Int), .int .i64 (u : Int), .bool true])) (hd : Drawn w w') : DiceRet R w e w' :=
 ⟨fun c' u' h2 => (by rw [h] at h2; injection h2 with h2; injection h2 with h3 h4; subst h3 h4; exact he), fun h2 => (by rw [h] at h2; cases h2), hd⟩
theorem DiceRet.no {R : Option (Nat × Nat)} {w w' : World} {e : Ending} (h : R = none) (he : e = .returned (.tuple #[.int .i64 0, .int .i64 0, .bool false])) (hd : Drawn w w') : DiceRet R w e w' :=
 ⟨fun c' u' h2 => (by rw [h] at h2; cases h2), fun _ => he, hd⟩
set_option maxHeartbeats 1000000 in
set_option maxRecDepth 100000 in
theorem rollDice_any (n : Nat) (hn : 0 < n) (hn2 : n ≤ 1000000) (s : ByteArray) (hs : s.size ≤ 400) (hB : BitsS s) (w : World) :
  Calls Tryz.prog 27 #[.int .i64 (n : Int), .string s] w (DiceRet (diceR n hn s 1 0 0) w) := by
 have HB := Lib.hid hB
 clear hB
 generalize hR : diceR n hn s 1 0 0 = R
 have HR := Lib.hid hR
 clear hR
 go_enter Tryz.func27, Tryz.ntmps27
 go_wp2
 go_loopw [7, 8, 9] (fun vv cc uu wr => ∃ v c u : Nat, vv = .int .i64 (v : Int) ∧ cc = .int .i64 (c : Int) ∧ uu = .int .i64 (u : Int) ∧ u ≤ s.size ∧ c < v ∧ v ≤ 2 * n ∧ Hid (diceR n hn s v c u = R) ∧ Drawn w wr) (fun vv _ uu _ => msr s.size (intOf uu).toNat (intOf vv).toNat)
 case atStart => exact ⟨1, 0, 0, rfl, rfl, rfl, Nat.zero_le _, by omega, by omega, HR, Drawn.refl _⟩
 case round =>
  obtain ⟨v0, c0, u0, rfl, rfl, rfl, hu0, hc0, hv0, hR0, hD0⟩ := hrel
  clear HR
  generalize hM : msr s.size u0 v0 = M
  have HM := Lib.hid hM
  go_wp2
  go_loopw [7, 8, 9] (fun vv cc uu wr => ∃ v c u : Nat, vv = .int .i64 (v : Int) ∧ cc = .int .i64 (c : Int) ∧ uu = .int .i64 (u : Int) ∧ u ≤ s.size ∧ c < v ∧ v ≤ 2 * n ∧ msr s.size u v ≤ M ∧ Hid (diceR n hn s v c u = R) ∧ Drawn w wr) (fun vv _ uu _ => msr s.size (intOf uu).toNat (intOf vv).toNat)
  case atStart => exact ⟨v0, c0, u0, rfl, rfl, rfl, hu0, hc0, hv0, Nat.le_of_eq hM, hR0, hD0⟩
  case round =>
   obtain ⟨v, c, u, rfl, rfl, rfl, hu, hc, hv, hMv, hR1, hD⟩ := hrel
   by_cases h1 : v < n
   ·by_cases h2 : u < s.size
    ·have hne : ((u : Int) == (s.size : Int)) = false := beq_eq_false_iff_ne.2 (by omega)
     have hbs := HB.out u h2
     have hR2 := Lib.hid ((diceR_step (hn := hn) (c := c) h1 h2).symm.trans hR1.out)
     have i0 : (0 : Int) ≤ (u : Int) := Int.natCast_nonneg _
     have i1 : (u : Int) < (s.size : Int) := by omega
     have i2 : ((u : Int)).toNat = u := by omega
     rcases hbs with hb | hb
     ·have hba : bitAt s u = 0 := by unfold bitAt; rw [dif_pos h2, hb]
      rw [hba] at hR2
      have HD := Lib.hid hD
      clear hR1 hba hD
      have w1 : IntKind.i64.wrap (2 * (v : Int)) = 2 * (v : Int) := by rw [IntKind.wrap_i64]; omega
      have w2 : IntKind.i64.wrap (2 * (c : Int)) = 2 * (c : Int) := by rw [IntKind.wrap_i64]; omega
      have hms := msr_step (L := s.size) h1 hn2 h2
      go_wp2
      go_quiet (fail)
      go_wp2
      go_roundw
      case rel => exact ⟨2 * v, 2 * c, u + 1, by go_num, by go_num, by go_num, by omega, by omega, by omega, by omega, hR2, HD.out.next _⟩
      case measure =>
       have e1 : ((u : Int) + 1).toNat = u + 1 := by omega
       have e2 : (2 * (v : Int)).toNat = 2 * v := by omega
       simpa [intOf, e1, e2] using hms
     ·have hba : bitAt s u = 1 := by unfold bitAt; rw [dif_pos h2, hb]
      rw [hba] at hR2
      have HD := Lib.hid hD
      clear hR1 hba hD
      have w1 : IntKind.i64.wrap (2 * (v : Int)) = 2 * (v : Int) := by rw [IntKind.wrap_i64]; omega
      have w2 : IntKind.i64.wrap (2 * (c : Int)) = 2 * (c : Int) := by rw [IntKind.wrap_i64]; omega
      have w3 : IntKind.i64.wrap (2 * (c : Int) + 1) = 2 * (c : Int) + 1 := by rw [IntKind.wrap_i64]; omega
      have hms := msr_step (L := s.size) h1 hn2 h2
      go_wp2
      go_quiet (fail)
      go_wp2
      go_roundw
      case rel => exact ⟨2 * v, 2 * c + 1, u + 1, by go_num, by go_num, by go_num, by omega, by omega, by omega, by omega, hR2, HD.out.next _⟩
      case measure =>
       have e1 : ((u : Int) + 1).toNat = u + 1 := by omega
       have e2 : (2 * (v : Int)).toNat = 2 * v := by omega
       simpa [intOf, e1, e2] using hms
    ·obtain rfl : u = s.size := by omega
     have hRn := Lib.hid ((diceR_none (hn := hn) (s := s) (c := c) h1 h2).symm.trans hR1.out)
     have HD := Lib.hid hD
     clear hR1 hD
     go_wp2
     exact bodyPost_ret (v := .tuple #[.int .i64 0, .int .i64 0, .bool false]) (by simp [results, Tryz.results27, go_sem]) rfl (DiceRet.no hRn.out.symm rfl HD.out)
   ·by_cases h3 : c < n
    ·have hRs := Lib.hid ((diceR_some (hn := hn) (s := s) (u := u) h1 h3).symm.trans hR1.out)
     have HD := Lib.hid hD
     clear hR1 hD
     go_wp2
     exact bodyPost_ret (v := .tuple #[.int .i64 (c : Int), .int .i64 (u : Int), .bool true]) (by simp [results, Tryz.results27, go_sem]) rfl (DiceRet.yes hRs.out.symm rfl HD.out)
    ·have hR2 := Lib.hid ((diceR_less (hn := hn) (s := s) (u := u) h1 h3).symm.trans hR1.out)
     have HD := Lib.hid hD
     have hms := msr_less (L := s.size) (u := u) h1 hn
     clear hR1 hD
     go_wp2
     go_roundw
     case rel => exact ⟨v - n, c - n, u, by rw [show ((v - n : Nat) : Int) = (v : Int) - n by omega], by rw [show ((c - n : Nat) : Int) = (c : Int) - n by omega], rfl, hu, by omega, by omega, hR2, HD.out⟩
     case measure =>
      have e2 : ((v : Int) - (n : Int)).toNat = v - n := by omega
      have hM2 := HM.out
      simp only [intOf, e2, Int.toNat_natCast]
      omega
theorem l06Number_any (n : Int) (w : World) : Calls Tryz.prog 73 #[.int .i64 n] w fun e w' => e = .returned (.bool (inR n 1 1000000)) ∧ w = w' := by
 go_enter Tryz.func73, Tryz.ntmps73
 go_wp2_with (go_at_call 22; refine (l00In_any _ _ _ _).mono ?_; rintro e w' ⟨rfl, rfl⟩)
 go_ret
 exact ⟨rfl, rfl⟩
set_option maxHeartbeats 1000000 in
theorem l01Bits_yes (s : ByteArray) (hs : s.size ≤ 400) (hB : BitsS s) (w : World) : Calls Tryz.prog 74 #[.string s] w fun e w' => e = .returned (.bool true) ∧ w = w' := by
 have HB := Lib.hid hB
 clear hB
 go_enter Tryz.func74, Tryz.ntmps74
 go_wp2
 go_loop [3] (fun i => ∃ k : Nat, k ≤ s.size ∧ i = .int .i64 (k : Int)) (fun i => s.size - (intOf i).toNat)
 case atStart => exact ⟨0, Nat.zero_le _, rfl⟩
 case round =>
  obtain ⟨k, hk, rfl⟩ := hrel
  by_cases hlt : k < s.size
  ·rcases HB.out k hlt with hb | hb
   all_goals
    go_wp2
    go_round
    case rel => exact ⟨k + 1, hlt, by go_num⟩
    case measure => simp [intOf]; omega
  ·obtain rfl : k = s.size := by omega
   have hd : decide ((s.size : Int) ≤ 400) = true := decide_eq_true (by omega)
   have HD := Lib.hid hd
   clear hd
   go_wp2
   go_ret
   exact ⟨ret_bool HD.out, rfl⟩
set_option maxHeartbeats 1000000 in
set_option maxRecDepth 100000 in
theorem specDice_yes (n : Nat) (hn : 0 < n) (hn2 : n ≤ 1000000) (s : ByteArray) (hs : s.size ≤ 400) (hB : BitsS s) (w : World) :
  Calls Tryz.prog 49 #[.int .i64 (n : Int), .string s] w (DiceRet (diceR n hn s 1 0 0) w) := by
 have HB := Lib.hid hB
 clear hB
 generalize hR : diceR n hn s 1 0 0 = R
 have HR := Lib.hid hR
 clear hR
 have HL := Lib.hid (l01Bits_yes s hs HB.out)
 have HN := Lib.hid (fun w => l06Number_any (n : Int) w)
 rw [inR_yes (n := (n : Int)) (lo := 1) (hi := 1000000) (by omega)] at HN
 go_enter Tryz.func49, Tryz.ntmps49
 go_wp2_with fail
 refine (HN.out _).mono ?_
 rintro e w' ⟨rfl, rfl⟩
 go_wp2_with fail
 refine (HL.out _).mono ?_
 rintro e w' ⟨rfl, rfl⟩
 go_wp2
 go_loop [7, 8, 9] (fun vv cc uu => ∃ v c u : Nat, vv = .int .i64 (v : Int) ∧ cc = .int .i64 (c : Int) ∧ uu = .int .i64 (u : Int) ∧ u ≤ s.size ∧ c < v ∧ v ≤ 2 * n ∧ Hid (diceR n hn s v c u = R)) (fun vv _ uu => msr s.size (intOf uu).toNat (intOf vv).toNat)
 case atStart => exact ⟨1, 0, 0, rfl, rfl, rfl, Nat.zero_le _, by omega, by omega, HR⟩
 case round =>
  obtain ⟨v0, c0, u0, rfl, rfl, rfl, hu0, hc0, hv0, hR0⟩ := hrel
  clear HR
  generalize hM : msr s.size u0 v0 = M
  have HM := Lib.hid hM
  go_wp2
  go_loop [7, 8, 9] (fun vv cc uu => ∃ v c u : Nat, vv = .int .i64 (v : Int) ∧ cc = .int .i64 (c : Int) ∧ uu = .int .i64 (u : Int) ∧ u ≤ s.size ∧ c < v ∧ v ≤ 2 * n ∧ msr s.size u v ≤ M ∧ Hid (diceR n hn s v c u = R)) (fun vv _ uu => msr s.size (intOf uu).toNat (intOf vv).toNat)
  case atStart => exact ⟨v0, c0, u0, rfl, rfl, rfl, hu0, hc0, hv0, Nat.le_of_eq hM, hR0⟩
  case round =>
   obtain ⟨v, c, u, rfl, rfl, rfl, hu, hc, hv, hMv, hR1⟩ := hrel
   by_cases h1 : v < n
   ·by_cases h2 : u < s.size
    ·have hne : ((u : Int) == (s.size : Int)) = false := beq_eq_false_iff_ne.2 (by omega)
     have hbs := HB.out u h2
     have hR2 := Lib.hid ((diceR_step (hn := hn) (c := c) h1 h2).symm.trans hR1.out)
     have i0 : (0 : Int) ≤ (u : Int) := Int.natCast_nonneg _
     have i1 : (u : Int) < (s.size : Int) := by omega
     have i2 : ((u : Int)).toNat = u := by omega
     rcases hbs with hb | hb
     ·have hba : bitAt s u = 0 := by unfold bitAt; rw [dif_pos h2, hb]
      rw [hba] at hR2
      clear hR1 hba
      have w1 : IntKind.i64.wrap (2 * (v : Int)) = 2 * (v : Int) := by rw [IntKind.wrap_i64]; omega
      have w2 : IntKind.i64.wrap (2 * (c : Int)) = 2 * (c : Int) := by rw [IntKind.wrap_i64]; omega
      have hms := msr_step (L := s.size) h1 hn2 h2
      go_wp2
      go_round
      case rel => exact ⟨2 * v, 2 * c, u + 1, by go_num, by go_num, by go_num, by omega, by omega, by omega, by omega, hR2⟩
      case measure =>
       have e1 : ((u : Int) + 1).toNat = u + 1 := by omega
       have e2 : (2 * (v : Int)).toNat = 2 * v := by omega
       have e3 : ((v : Int) * 2).toNat = 2 * v := by omega
       simpa [intOf, e1, e2, e3] using hms
     ·have hba : bitAt s u = 1 := by unfold bitAt; rw [dif_pos h2, hb]
      rw [hba] at hR2
      clear hR1 hba
      have w1 : IntKind.i64.wrap (2 * (v : Int)) = 2 * (v : Int) := by rw [IntKind.wrap_i64]; omega
      have w2 : IntKind.i64.wrap (2 * (c : Int)) = 2 * (c : Int) := by rw [IntKind.wrap_i64]; omega
      have w3 : IntKind.i64.wrap (2 * (c : Int) + 1) = 2 * (c : Int) + 1 := by rw [IntKind.wrap_i64]; omega
      have hms := msr_step (L := s.size) h1 hn2 h2
      go_wp2
      go_round
      case rel => exact ⟨2 * v, 2 * c + 1, u + 1, by go_num, by go_num, by go_num, by omega, by omega, by omega, by omega, hR2⟩
      case measure =>
       have e1 : ((u : Int) + 1).toNat = u + 1 := by omega
       have e2 : (2 * (v : Int)).toNat = 2 * v := by omega
       have e3 : ((v : Int) * 2).toNat = 2 * v := by omega
       simpa [intOf, e1, e2, e3] using hms
    ·obtain rfl : u = s.size := by omega
     have hRn := Lib.hid ((diceR_none (hn := hn) (s := s) (c := c) h1 h2).symm.trans hR1.out)
     clear hR1
     go_wp2
     exact bodyPost_ret (v := .tuple #[.int .i64 0, .int .i64 0, .bool false]) (by simp [results, Tryz.results49, go_sem]) rfl (DiceRet.no hRn.out.symm rfl (Drawn.refl _))
   ·by_cases h3 : c < n
    ·have hRs := Lib.hid ((diceR_some (hn := hn) (s := s) (u := u) h1 h3).symm.trans hR1.out)
     clear hR1
     go_wp2
     exact bodyPost_ret (v := .tuple #[.int .i64 (c : Int), .int .i64 (u : Int), .bool true]) (by simp [results, Tryz.results49, go_sem]) rfl (DiceRet.yes hRs.out.symm rfl (Drawn.refl _))
    ·have hR2 := Lib.hid ((diceR_less (hn := hn) (s := s) (u := u) h1 h3).symm.trans hR1.out)
     have hms := msr_less (L := s.size) (u := u) h1 hn
     clear hR1
     go_wp2
     go_round
     case rel => exact ⟨v - n, c - n, u, by rw [show ((v - n : Nat) : Int) = (v : Int) - n by omega], by rw [show ((c - n : Nat) : Int) = (c : Int) - n by omega], rfl, hu, by omega, by omega, hR2⟩
     case measure =>
      have e2 : ((v : Int) - (n : Int)).toNat = v - n := by omega
      have hM2 := HM.out
      simp only [intOf, e2, Int.toNat_natCast]
      omega
end Go.Proofs.YthagenodiofgnaaGreatDoor.Dice

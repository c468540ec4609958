/- A number drawn from bits, of the program and of the reference. -/
import Derived.Test.YtgipnbeipfhekaaGreatDoorMgFnT00
import Derived.Deep.QuietTactic
import Derived.BigQuiet
import Derived.Test.YtgipnbeipfhekaaGreatDoorMgFnT05
import Derived.Test.YtgipnbeipfhekaaGreatDoorMgFnT01
import Derived.Deep.RegionLaw
import Derived.Deep.AppendLies
import Derived.Deep.RegionHeld3
import Derived.Shelf.RegionOpenPlain
namespace Go.Proofs.YtgipnbeipfhekaaGreatDoor.Dice
open Go.RowKit Go.Proofs.YtgipnbeipfhekaaGreatDoor Go.Proofs.YtgipnbeipfhekaaGreatDoor.Base Go.Proofs.YtgipnbeipfhekaaGreatDoor.Mem Go.Proofs.YtgipnbeipfhekaaGreatDoor.Bits
set_option linter.unusedVariables false
def bitAt (s : ByteArray) (u : Nat) : Nat := if h : u < s.size then s[u].toNat - 48 else 0
def diceR (n : Nat) (hn : 0 < n) (s : ByteArray) (v c u : Nat) : Option (Nat × Nat) :=
 if v < n then (if u < s.size then diceR n hn s (2 * v) (2 * c + bitAt s u) (u + 1) else none)
 else if c < n then some (c, u) else diceR n hn s (v - n) (c - n) u
termination_by (s.size - u, v)
def BitsS (s : ByteArray) : Prop := ∀ (u : Nat) (h : u < s.size), s[u].toNat = 48 ∨ s[u].toNat = 49
theorem diceR_step {n : Nat} {hn : 0 < n} {s : ByteArray} {v c u : Nat} (h1 : v < n) (h2 : u < s.size) : diceR n hn s v c u = diceR n hn s (2 * v) (2 * c + bitAt s u) (u + 1) := by
 rw [diceR]; simp [h1, h2]
theorem diceR_none {n : Nat} {hn : 0 < n} {s : ByteArray} {v c u : Nat} (h1 : v < n) (h2 : ¬ u < s.size) : diceR n hn s v c u = none := by
 rw [diceR]; simp [h1, h2]
theorem diceR_some {n : Nat} {hn : 0 < n} {s : ByteArray} {v c u : Nat} (h1 : ¬ v < n) (h2 : c < n) : diceR n hn s v c u = some (c, u) := by
 rw [diceR]; simp [h1, h2]
theorem diceR_less {n : Nat} {hn : 0 < n} {s : ByteArray} {v c u : Nat} (h1 : ¬ v < n) (h2 : ¬ c < n) : diceR n hn s v c u = diceR n hn s (v - n) (c - n) u := by
 conv => lhs; rw [diceR]
 simp [h1, h2]
def msr (L u v : Nat) : Nat := (L - u) * 4000000 + v
theorem msr_step {L u v n : Nat} (h1 : v < n) (hn : n ≤ 1000000) (h2 : u < L) : msr L (u + 1) (2 * v) < msr L u v := by
 unfold msr
 have : L - u = (L - (u + 1)) + 1 := by omega
 rw [this, Nat.add_mul]
 omega
theorem msr_less {L u v n : Nat} (h1 : ¬ v < n) (hn : 0 < n) : msr L u (v - n) < msr L u v := by
 unfold msr
 omega
theorem diceR_bd {n : Nat} {hn : 0 < n} {s : ByteArray} {a b : Nat} (hn2 : n ≤ 1000000) : ∀ (M v c u : Nat), msr s.size u v ≤ M → u ≤ s.size → diceR n hn s v c u = some (a, b) → a < n ∧ b ≤ s.size := by
 intro M
 induction M using Nat.strongRecOn with
 | _ M ih =>
  intro v c u hM hu h
  by_cases h1 : v < n
  ·by_cases h2 : u < s.size
   ·rw [diceR_step h1 h2] at h
    have hs := msr_step (L := s.size) h1 hn2 h2
    exact ih (msr s.size (u + 1) (2 * v)) (by omega) (2 * v) (2 * c + bitAt s u) (u + 1) (Nat.le_refl _) h2 h
   ·rw [diceR_none h1 h2] at h; cases h
  ·by_cases h2 : c < n
   ·rw [diceR_some h1 h2] at h
    injection h with h
    injection h with h3 h4
    subst h3 h4
    exact ⟨h2, hu⟩
   ·rw [diceR_less h1 h2] at h
    have hs := msr_less (L := s.size) (u := u) h1 hn
    exact ih (msr s.size u (v - n)) (by omega) (v - n) (c - n) u (Nat.le_refl _) hu h
def DiceRet (R : Option (Nat × Nat)) (w : World) (e : Ending) (w' : World) : Prop :=
 (∀ c u : Nat, R = some (c, u) → e = .returned (.tuple #[.int .i64 (c : Int), .int .i64 (u : Int), .bool true])) ∧ (R = none → e = .returned (.tuple #[.int .i64 0, .int .i64 0, .bool false])) ∧ Drawn w w'
theorem DiceRet.yes {R : Option (Nat × Nat)} {w w' : World} {e : Ending} {c u : Nat} (h : R = some (c, u)) (he : e = .returned (.tuple #[.int .i64 (c : Int), .int .i64 (u : Int), .bool true])) (hd : Drawn w w') : DiceRet R w e w' :=
 ⟨fun c' u' h2 => (by rw [h] at h2; injection h2 with h2; injection h2 with h3 h4; subst h3 h4; exact he), fun h2 => (by rw [h] at h2; cases h2), hd⟩
theorem DiceRet.no {R : Option (Nat × Nat)} {w w' : World} {e : Ending} (h : R = none) (he : e = .returned (.tuple #[.int .i64 0, .int .i64 0, .bool false])) (hd : Drawn w w') : DiceRet R w e w' :=
 ⟨fun c' u' h2 => (by rw [h] at h2; cases h2), fun _ => he, hd⟩
set_option maxHeartbeats 1000000 in
set_option maxRecDepth 100000 in
theorem rollDice_any (n : Nat) (hn : 0 < n) (hn2 : n ≤ 1000000) (s : ByteArray) (hs : s.size ≤ 400) (hB : BitsS s) (w : World) :
  Calls Tryz.prog 75 #[.int .i64 (n : Int), .string s] w (DiceRet (diceR n hn s 1 0 0) w) := by
 have HB := Lib.hid hB
 clear hB
 generalize hR : diceR n hn s 1 0 0 = R
 have HR := Lib.hid hR
 clear hR
 go_enter Tryz.func75, Tryz.ntmps75
 go_wp2
 go_loopw [7, 8, 9] (fun vv cc uu wr => ∃ v c u : Nat, vv = .int .i64 (v : Int) ∧ cc = .int .i64 (c : Int) ∧ uu = .int .i64 (u : Int) ∧ u ≤ s.size ∧ c < v ∧ v ≤ 2 * n ∧ Hid (diceR n hn s v c u = R) ∧ Drawn w wr) (fun vv _ uu _ => msr s.size (intOf uu).toNat (intOf vv).toNat)
 case atStart => exact ⟨1, 0, 0, rfl, rfl, rfl, Nat.zero_le _, by omega, by omega, HR, Drawn.refl _⟩
 case round =>
  obtain ⟨v0, c0, u0, rfl, rfl, rfl, hu0, hc0, hv0, hR0, hD0⟩ := hrel
  clear HR
  generalize hM : msr s.size u0 v0 = M
  have HM := Lib.hid hM
  go_wp2
  go_loopw [7, 8, 9] (fun vv cc uu wr => ∃ v c u : Nat, vv = .int .i64 (v : Int) ∧ cc = .int .i64 (c : Int) ∧ uu = .int .i64 (u : Int) ∧ u ≤ s.size ∧ c < v ∧ v ≤ 2 * n ∧ msr s.size u v ≤ M ∧ Hid (diceR n hn s v c u = R) ∧ Drawn w wr) (fun vv _ uu _ => msr s.size (intOf uu).toNat (intOf vv).toNat)
  case atStart => exact ⟨v0, c0, u0, rfl, rfl, rfl, hu0, hc0, hv0, Nat.le_of_eq hM, hR0, hD0⟩
  case round =>
   obtain ⟨v, c, u, rfl, rfl, rfl, hu, hc, hv, hMv, hR1, hD⟩ := hrel
   by_cases h1 : v < n
   ·by_cases h2 : u < s.size
    ·have hne : ((u : Int) == (s.size : Int)) = false := beq_eq_false_iff_ne.2 (by omega)
     have hbs := HB.out u h2
     have hR2 := Lib.hid ((diceR_step (hn := hn) (c := c) h1 h2).symm.trans hR1.out)
     have i0 : (0 : Int) ≤ (u : Int) := Int.natCast_nonneg _
     have i1 : (u : Int) < (s.size : Int) := by omega
     have i2 : ((u : Int)).toNat = u := by omega
     rcases hbs with hb | hb
     ·have hba : bitAt s u = 0 := by unfold bitAt; rw [dif_pos h2, hb]
      rw [hba] at hR2
      have HD := Lib.hid hD
      clear hR1 hba hD
      have w1 : IntKind.i64.wrap (2 * (v : Int)) = 2 * (v : Int) := by rw [IntKind.wrap_i64]; omega
      have w2 : IntKind.i64.wrap (2 * (c : Int)) = 2 * (c : Int) := by rw [IntKind.wrap_i64]; omega
      have hms := msr_step (L := s.size) h1 hn2 h2
      go_wp2
      go_quiet (fail)
      go_wp2
      go_roundw
      case rel => exact ⟨2 * v, 2 * c, u + 1, by go_num, by go_num, by go_num, by omega, by omega, by omega, by omega, hR2, HD.out.next _⟩
      case measure =>
       have e1 : ((u : Int) + 1).toNat = u + 1 := by omega
       have e2 : (2 * (v : Int)).toNat = 2 * v := by omega
       simpa [intOf, e1, e2] using hms
     ·have hba : bitAt s u = 1 := by unfold bitAt; rw [dif_pos h2, hb]
      rw [hba] at hR2
      have HD := Lib.hid hD
      clear hR1 hba hD
      have w1 : IntKind.i64.wrap (2 * (v : Int)) = 2 * (v : Int) := by rw [IntKind.wrap_i64]; omega
      have w2 : IntKind.i64.wrap (2 * (c : Int)) = 2 * (c : Int) := by rw [IntKind.wrap_i64]; omega
      have w3 : IntKind.i64.wrap (2 * (c : Int) + 1) = 2 * (c : Int) + 1 := by rw [IntKind.wrap_i64]; omega
      have hms := msr_step (L := s.size) h1 hn2 h2
      go_wp2
      go_quiet (fail)
      go_wp2
      go_roundw
      case rel => exact ⟨2 * v, 2 * c + 1, u + 1, by go_num, by go_num, by go_num, by omega, by omega, by omega, by omega, hR2, HD.out.next _⟩
      case measure =>
       have e1 : ((u : Int) + 1).toNat = u + 1 := by omega
       have e2 : (2 * (v : Int)).toNat = 2 * v := by omega
       simpa [intOf, e1, e2] using hms
    ·obtain rfl : u = s.size := by omega
     have hRn := Lib.hid ((diceR_none (hn := hn) (s := s) (c := c) h1 h2).symm.trans hR1.out)
     have HD := Lib.hid hD
     clear hR1 hD
     go_wp2
     exact bodyPost_ret (v := .tuple #[.int .i64 0, .int .i64 0, .bool false]) (by simp [results, Tryz.results75, go_sem]) rfl (DiceRet.no hRn.out.symm rfl HD.out)
   ·by_cases h3 : c < n
    ·have hRs := Lib.hid ((diceR_some (hn := hn) (s := s) (u := u) h1 h3).symm.trans hR1.out)
     have HD := Lib.hid hD
     clear hR1 hD
     go_wp2
     exact bodyPost_ret (v := .tuple #[.int .i64 (c : Int), .int .i64 (u : Int), .bool true]) (by simp [results, Tryz.results75, go_sem]) rfl (DiceRet.yes hRs.out.symm rfl HD.out)
    ·have hR2 := Lib.hid ((diceR_less (hn := hn) (s := s) (u := u) h1 h3).symm.trans hR1.out)
     have HD := Lib.hid hD
     have hms := msr_less (L := s.size) (u := u) h1 hn
     clear hR1 hD
     go_wp2
     go_roundw
     case rel => exact ⟨v - n, c - n, u, by rw [show ((v - n : Nat) : Int) = (v : Int) - n by omega], by rw [show ((c - n : Nat) : Int) = (c : Int) - n by omega], rfl, hu, by omega, by omega, hR2, HD.out⟩
     case measure =>
      have e2 : ((v : Int) - (n : Int)).toNat = v - n := by omega
      have hM2 := HM.out
      simp only [intOf, e2, Int.toNat_natCast]
      omega
theorem l06Number_any (n : Int) (w : World) : Calls Tryz.prog 127 #[.int .i64 n] w fun e w' => e = .returned (.bool (inR n 1 1000000)) ∧ w = w' := by
 go_enter Tryz.func127, Tryz.ntmps127
 go_wp2_with (go_at_call 38; refine (l00In_any _ _ _ _).mono ?_; rintro e w' ⟨rfl, rfl⟩)
 go_ret
 exact ⟨rfl, rfl⟩
set_option maxHeartbeats 1000000 in
theorem l01Bits_yes (s : ByteArray) (hs : s.size ≤ 400) (hB : BitsS s) (w : World) : Calls Tryz.prog 128 #[.string s] w fun e w' => e = .returned (.bool true) ∧ w = w' := by
 have HB := Lib.hid hB
 clear hB
 go_enter Tryz.func128, Tryz.ntmps128
 go_wp2
 go_loop [3] (fun i => ∃ k : Nat, k ≤ s.size ∧ i = .int .i64 (k : Int)) (fun i => s.size - (intOf i).toNat)
 case atStart => exact ⟨0, Nat.zero_le _, rfl⟩
 case round =>
  obtain ⟨k, hk, rfl⟩ := hrel
  by_cases hlt : k < s.size
  ·rcases HB.out k hlt with hb | hb
   all_goals
    go_wp2
    go_round
    case rel => exact ⟨k + 1, hlt, by go_num⟩
    case measure => simp [intOf]; omega
  ·obtain rfl : k = s.size := by omega
   have hd : decide ((s.size : Int) ≤ 400) = true := decide_eq_true (by omega)
   have HD := Lib.hid hd
   clear hd
   go_wp2
   go_ret
   exact ⟨ret_bool HD.out, rfl⟩
set_option maxHeartbeats 1000000 in
set_option maxRecDepth 100000 in
theorem specDice_yes (n : Nat) (hn : 0 < n) (hn2 : n ≤ 1000000) (s : ByteArray) (hs : s.size ≤ 400) (hB : BitsS s) (w : World) :
  Calls Tryz.prog 79 #[.int .i64 (n : Int), .string s] w (DiceRet (diceR n hn s 1 0 0) w) := by
 have HB := Lib.hid hB
 clear hB
 generalize hR : diceR n hn s 1 0 0 = R
 have HR := Lib.hid hR
 clear hR
 have HL := Lib.hid (l01Bits_yes s hs HB.out)
 have HN := Lib.hid (fun w => l06Number_any (n : Int) w)
 rw [inR_yes (n := (n : Int)) (lo := 1) (hi := 1000000) (by omega)] at HN
 go_enter Tryz.func79, Tryz.ntmps79
 go_wp2_with fail
 refine (HN.out _).mono ?_
 rintro e w' ⟨rfl, rfl⟩
 go_wp2_with fail
 refine (HL.out _).mono ?_
 rintro e w' ⟨rfl, rfl⟩
 go_wp2
 go_loop [7, 8, 9] (fun vv cc uu => ∃ v c u : Nat, vv = .int .i64 (v : Int) ∧ cc = .int .i64 (c : Int) ∧ uu = .int .i64 (u : Int) ∧ u ≤ s.size ∧ c < v ∧ v ≤ 2 * n ∧ Hid (diceR n hn s v c u = R)) (fun vv _ uu => msr s.size (intOf uu).toNat (intOf vv).toNat)
 case atStart => exact ⟨1, 0, 0, rfl, rfl, rfl, Nat.zero_le _, by omega, by omega, HR⟩
 case round =>
  obtain ⟨v0, c0, u0, rfl, rfl, rfl, hu0, hc0, hv0, hR0⟩ := hrel
  clear HR
  generalize hM : msr s.size u0 v0 = M
  have HM := Lib.hid hM
  go_wp2
  go_loop [7, 8, 9] (fun vv cc uu => ∃ v c u : Nat, vv = .int .i64 (v : Int) ∧ cc = .int .i64 (c : Int) ∧ uu = .int .i64 (u : Int) ∧ u ≤ s.size ∧ c < v ∧ v ≤ 2 * n ∧ msr s.size u v ≤ M ∧ Hid (diceR n hn s v c u = R)) (fun vv _ uu => msr s.size (intOf uu).toNat (intOf vv).toNat)
  case atStart => exact ⟨v0, c0, u0, rfl, rfl, rfl, hu0, hc0, hv0, Nat.le_of_eq hM, hR0⟩
  case round =>
   obtain ⟨v, c, u, rfl, rfl, rfl, hu, hc, hv, hMv, hR1⟩ := hrel
   by_cases h1 : v < n
   ·by_cases h2 : u < s.size
    ·have hne : ((u : Int) == (s.size : Int)) = false := beq_eq_false_iff_ne.2 (by omega)
     have hbs := HB.out u h2
     have hR2 := Lib.hid ((diceR_step (hn := hn) (c := c) h1 h2).symm.trans hR1.out)
     have i0 : (0 : Int) ≤ (u : Int) := Int.natCast_nonneg _
     have i1 : (u : Int) < (s.size : Int) := by omega
     have i2 : ((u : Int)).toNat = u := by omega
     rcases hbs with hb | hb
     ·have hba : bitAt s u = 0 := by unfold bitAt; rw [dif_pos h2, hb]
      rw [hba] at hR2
      clear hR1 hba
      have w1 : IntKind.i64.wrap (2 * (v : Int)) = 2 * (v : Int) := by rw [IntKind.wrap_i64]; omega
      have w2 : IntKind.i64.wrap (2 * (c : Int)) = 2 * (c : Int) := by rw [IntKind.wrap_i64]; omega
      have hms := msr_step (L := s.size) h1 hn2 h2
      go_wp2
      go_round
      case rel => exact ⟨2 * v, 2 * c, u + 1, by go_num, by go_num, by go_num, by omega, by omega, by omega, by omega, hR2⟩
      case measure =>
       have e1 : ((u : Int) + 1).toNat = u + 1 := by omega
       have e2 : (2 * (v : Int)).toNat = 2 * v := by omega
       have e3 : ((v : Int) * 2).toNat = 2 * v := by omega
       simpa [intOf, e1, e2, e3] using hms
     ·have hba : bitAt s u = 1 := by unfold bitAt; rw [dif_pos h2, hb]
      rw [hba] at hR2
      clear hR1 hba
      have w1 : IntKind.i64.wrap (2 * (v : Int)) = 2 * (v : Int) := by rw [IntKind.wrap_i64]; omega
      have w2 : IntKind.i64.wrap (2 * (c : Int)) = 2 * (c : Int) := by rw [IntKind.wrap_i64]; omega
      have w3 : IntKind.i64.wrap (2 * (c : Int) + 1) = 2 * (c : Int) + 1 := by rw [IntKind.wrap_i64]; omega
      have hms := msr_step (L := s.size) h1 hn2 h2
      go_wp2
      go_round
      case rel => exact ⟨2 * v, 2 * c + 1, u + 1, by go_num, by go_num, by go_num, by omega, by omega, by omega, by omega, hR2⟩
      case measure =>
       have e1 : ((u : Int) + 1).toNat = u + 1 := by omega
       have e2 : (2 * (v : Int)).toNat = 2 * v := by omega
       have e3 : ((v : Int) * 2).toNat = 2 * v := by omega
       simpa [intOf, e1, e2, e3] using hms
    ·obtain rfl : u = s.size := by omega
     have hRn := Lib.hid ((diceR_none (hn := hn) (s := s) (c := c) h1 h2).symm.trans hR1.out)
     clear hR1
     go_wp2
     exact bodyPost_ret (v := .tuple #[.int .i64 0, .int .i64 0, .bool false]) (by simp [results, Tryz.results79, go_sem]) rfl (DiceRet.no hRn.out.symm rfl (Drawn.refl _))
   ·by_cases h3 : c < n
    ·have hRs := Lib.hid ((diceR_some (hn := hn) (s := s) (u := u) h1 h3).symm.trans hR1.out)
     clear hR1
     go_wp2
     exact bodyPost_ret (v := .tuple #[.int .i64 (c : Int), .int .i64 (u : Int), .bool true]) (by simp [results, Tryz.results79, go_sem]) rfl (DiceRet.yes hRs.out.symm rfl (Drawn.refl _))
    ·have hR2 := Lib.hid ((diceR_less (hn := hn) (s := s) (u := u) h1 h3).symm.trans hR1.out)
     have hms := msr_less (L := s.size) (u := u) h1 hn
     clear hR1
     go_wp2
     go_round
     case rel => exact ⟨v - n, c - n, u, by rw [show ((v - n : Nat) : Int) = (v : Int) - n by omega], by rw [show ((c - n : Nat) : Int) = (c : Int) - n by omega], rfl, hu, by omega, by omega, hR2⟩
     case measure =>
      have e2 : ((v : Int) - (n : Int)).toNat = v - n := by omega
      have hM2 := HM.out
      simp only [intOf, e2, Int.toNat_natCast]
      omega
end Go.Proofs.YtgipnbeipfhekaaGreatDoor.Dice
namespace Go.Proofs.YtgipnbeipfhekaaGreatDoor.Face
open Go.RowKit Go.Proofs.YtgipnbeipfhekaaGreatDoor Go.Proofs.YtgipnbeipfhekaaGreatDoor.Base Go.Proofs.YtgipnbeipfhekaaGreatDoor.Mem Go.Proofs.YtgipnbeipfhekaaGreatDoor.Reg Go.Proofs.YtgipnbeipfhekaaGreatDoor.Str Go.Proofs.YtgipnbeipfhekaaGreatDoor.Take Go.Proofs.YtgipnbeipfhekaaGreatDoor.Skip Go.Proofs.YtgipnbeipfhekaaGreatDoor.Dice
set_option linter.unusedVariables false
theorem streamB_takeX {K W T m f a s c : Int} (h : streamB K W T m f a s = true) : streamB K W T m f a (takeX K W T m f a s c) = true := by
 unfold streamB at *
 by_cases h0 : K = 0
 ·subst h0
  rw [if_pos rfl, Bool.and_eq_true] at *
  refine ⟨h.1, ?_⟩
  obtain ⟨h1, h2, h3, h4, h5, h6⟩ := Reg.bothR_true h.2
  have ep : ((2 ^ W.toNat : Nat) : Int) = (2 : Int) ^ W.toNat := by simp
  have hlt := CycM.iter_lt (T := nextR W.toNat T.toNat) (M := 2 ^ W.toNat) (fun y hy => nextR_lt hy) (x := s.toNat) (by omega) c.toNat
  have hb := h.2
  unfold Reg.bothR at hb ⊢
  rw [Bool.and_eq_true] at hb ⊢
  refine ⟨hb.1, ?_⟩
  unfold stB
  refine inR_yes ?_
  simp only [takeX, if_pos]
  omega
 ·rw [if_neg h0] at *
  by_cases h1 : K = 1
  ·subst h1
   rw [if_pos rfl, Bool.and_eq_true] at *
   refine ⟨h.1, ?_⟩
   obtain ⟨h1, h2, h3, h4, h5, h6, h7, h8⟩ := Cong.bothB_true h.2
   have hlt := CycM.iter_lt (T := Cong.stepN m.toNat f.toNat a.toNat) (M := m.toNat) (fun y hy => Cong.stepN_lt (by omega) y) (x := s.toNat) (by omega) c.toNat
   have hb := h.2
   unfold Cong.bothB at hb ⊢
   rw [Bool.and_eq_true] at hb ⊢
   refine ⟨hb.1, inR_yes ?_⟩
   simp only [takeX, h0, if_false]
   omega
  ·rw [if_neg h1] at h; cases h
theorem outS_bits (nx bt : Nat → Nat) (hbt : ∀ y, bt y < 2) (x : Nat) : ∀ n, ∀ b ∈ outS nx bt x n, b.toNat = 48 ∨ b.toNat = 49
 | 0, b, h => by simp [outS] at h
 | n + 1, b, h => by
  rw [outS, List.mem_append] at h
  rcases h with h | h
  ·exact outS_bits nx bt hbt x n b h
  ·simp only [List.mem_singleton] at h
   subst h
   have := hbt (CycM.iter nx x n)
   rcases Nat.lt_or_ge (bt (CycM.iter nx x n)) 1 with h1 | h1
   ·rw [show bt (CycM.iter nx x n) = 0 by omega]; left; rfl
   ·rw [show bt (CycM.iter nx x n) = 1 by omega]; right; rfl
theorem takeL_bits (K W T m f a s c : Int) : BitsS ⟨(takeL K W T m f a s c).toArray⟩ := by
 have h : ∀ b ∈ takeL K W T m f a s c, b.toNat = 48 ∨ b.toNat = 49 := by
  unfold takeL
  split
  ·exact outS_bits _ _ (fun y => Nat.mod_lt _ (by decide)) _ _
  ·exact outS_bits _ _ (fun y => cbit_lt _ _ _ _) _ _
 intro u hu
 refine h _ ?_
 have hu' : u < (takeL K W T m f a s c).length := by simpa [ByteArray.size] using hu
 have e : (⟨(takeL K W T m f a s c).toArray⟩ : ByteArray)[u] = (takeL K W T m f a s c)[u] := rfl
 rw [e]
 exact List.getElem_mem hu'
theorem takeL_size (K W T m f a s c : Int) : (⟨(takeL K W T m f a s c).toArray⟩ : ByteArray).size = c.toNat := by
 show (takeL K W T m f a s c).toArray.size = _
 unfold takeL
 split <;> simp [outS_len]
def faceR (K W T m f a s : Int) (n : Nat) (hn : 0 < n) : Option (Nat × Nat) := diceR n hn ⟨(takeL K W T m f a s 400).toArray⟩ 1 0 0
def FaceRet (K W T m f a s : Int) (R : Option (Nat × Nat)) (w : World) (e : Ending) (w' : World) : Prop :=
 (∀ c u : Nat, R = some (c, u) → e = .returned (.tuple #[.int .i64 (c : Int), .agg #[.int .i64 K, .int .i64 W, .int .i64 T, .int .i64 m, .int .i64 f, .int .i64 a, .int .i64 (takeX K W T m f a s (u : Int))], .bool true])) ∧ (R = none → e = .returned (.tuple #[.int .i64 0, .agg #[.int .i64 0, .int .i64 0, .int .i64 0, .int .i64 0, .int .i64 0, .int .i64 0, .int .i64 0], .bool false])) ∧ Below w.heap.size w w'
theorem FaceRet.yes {K W T m f a s : Int} {R : Option (Nat × Nat)} {w w' : World} {e : Ending} {c u : Nat} (h : R = some (c, u)) (he : e = .returned (.tuple #[.int .i64 (c : Int), .agg #[.int .i64 K, .int .i64 W, .int .i64 T, .int .i64 m, .int .i64 f, .int .i64 a, .int .i64 (takeX K W T m f a s (u : Int))], .bool true])) (hd : Below w.heap.size w w') : FaceRet K W T m f a s R w e w' :=
 ⟨fun c' u' h2 => (by rw [h] at h2; injection h2 with h2; injection h2 with h3 h4; subst h3 h4; exact he), fun h2 => (by rw [h] at h2; cases h2), hd⟩
theorem FaceRet.no {K W T m f a s : Int} {R : Option (Nat × Nat)} {w w' : World} {e : Ending} (h : R = none) (he : e = .returned (.tuple #[.int .i64 0, .agg #[.int .i64 0, .int .i64 0, .int .i64 0, .int .i64 0, .int .i64 0, .int .i64 0, .int .i64 0], .bool false])) (hd : Below w.heap.size w w') : FaceRet K W T m f a s R w e w' :=
 ⟨fun c' u' h2 => (by rw [h] at h2; cases h2), fun _ => he, hd⟩
theorem faceR_bd {K W T m f a s : Int} {n : Nat} {hn : 0 < n} (hn2 : n ≤ 1000000) {c u : Nat} (h : faceR K W T m f a s n hn = some (c, u)) : c < n ∧ u ≤ 400 := by
 have := diceR_bd hn2 _ 1 0 0 (Nat.le_refl _) (Nat.zero_le _) h
 rw [takeL_size] at this
 exact this
set_option maxHeartbeats 1000000 in
set_option maxRecDepth 100000 in
theorem l11Face_any {K W T m f a s : Int} (hB : streamB K W T m f a s = true) (n : Nat) (hn : 0 < n) (hn2 : n ≤ 1000000) (w : World) :
  Calls Tryz.prog 39 #[.agg #[.int .i64 K, .int .i64 W, .int .i64 T, .int .i64 m, .int .i64 f, .int .i64 a, .int .i64 s], .int .i64 (n : Int)] w (FaceRet K W T m f a s (faceR K W T m f a s n hn) w) := by
 obtain ⟨W1, hW1, S, R, B⟩ := two w K W T m f a s
 have HT := Lib.hid (specTake_yes hB (c := 400) (inR_yes (by omega)) W1)
 have HDc := Lib.hid (fun w => specDice_yes n hn hn2 ⟨(takeL K W T m f a s 400).toArray⟩ (by rw [takeL_size]; decide) (takeL_bits _ _ _ _ _ _ _ _) w)
 have HSk := Lib.hid (fun (u : Nat) (hu : u ≤ 400) w => specSkip_yes hB (c := (u : Int)) (by omega) w)
 have hbd : ∀ c u, faceR K W T m f a s n hn = some (c, u) → c < n ∧ u ≤ 400 := fun c u h => faceR_bd hn2 h
 unfold faceR at hbd
 unfold faceR
 unfold TakeR at HT
 generalize takeX K W T m f a s 400 = x4 at *
 generalize (⟨(takeL K W T m f a s 400).toArray⟩ : ByteArray) = bs at *
 have HW := Lib.hid hW1
 have HS := Lib.hid S
 have HR := Lib.hid R
 have HB1 := Lib.hid B
 have hB0 := Lib.hid hB
 clear hW1 S R B hB
 cases hR : diceR n hn bs 1 0 0 with
 | none =>
  rw [hR] at HDc
  have HDn := Lib.hid (fun w => (HDc.out w).mono fun e w' h => (show e = .returned (.tuple #[.int .i64 0, .int .i64 0, .bool false]) ∧ Drawn w w' from ⟨h.2.1 rfl, h.2.2⟩))
  clear HDc hR hbd
  go_enter Tryz.func39, Tryz.ntmps39
  go_wp2_with fail
  rw [← HW.out]
  refine HT.out.mono ?_
  rintro e w1 ⟨rfl, b1⟩
  have HBb := Lib.hid b1
  clear b1
  go_wp2_with fail
  refine (HDn.out _).mono ?_
  rintro e w2 ⟨rfl, dd⟩
  have b2 : Below W1.heap.size W1 w2 := Base.Below.nextA HBb.out (((Below.refl _ _).alloc (Nat.le_refl _) _).trans ((dd.below (B := (w1.alloc (.cells #[.int .i64 K, .int .i64 W, .int .i64 T, .int .i64 m, .int .i64 f, .int .i64 a, .int .i64 x4] 29)).heap.size)).mono (by simp)))
  have r0 := HR.out.below b2 HR.out.lt
  have d0 := (r0).c0; have d1 := (r0).c1; have d2 := (r0).c2; have d3 := (r0).c3; have d4 := (r0).c4; have d5 := (r0).c5; have d6 := (r0).c6
  have g0 := (r0).frz 0; have g1 := (r0).frz 1; have g2 := (r0).frz 2; have g3 := (r0).frz 3; have g4 := (r0).frz 4; have g5 := (r0).frz 5; have g6 := (r0).frz 6
  have S8 := r0.set7 0 0 0 0 0 0 0
  have p0 := (S8).c0; have p1 := (S8).c1; have p2 := (S8).c2; have p3 := (S8).c3; have p4 := (S8).c4; have p5 := (S8).c5; have p6 := (S8).c6
  simp only [set7] at p0 p1 p2 p3 p4 p5 p6
  have HB2 := Lib.hid (below_set7 (b := w.heap.size + 1) (HB1.out.trans (b2.mono HB1.out.size)) (Nat.le_succ _) (Nat.le_trans HB1.out.size b2.size) 0 0 0 0 0 0 0)
  clear S8 r0 b2 dd
  go_wp2
  exact bodyPost_ret (v := .tuple #[.int .i64 0, .agg #[.int .i64 0, .int .i64 0, .int .i64 0, .int .i64 0, .int .i64 0, .int .i64 0, .int .i64 0], .bool false]) (by simp [results, Tryz.results39, go_sem, p0, p1, p2, p3, p4, p5, p6]) rfl (FaceRet.no rfl rfl HB2.out)
 | some p =>
  obtain ⟨c, u⟩ := p
  obtain ⟨hc, hu⟩ := hbd c u hR
  rw [hR] at HDc
  have HDn := Lib.hid (fun w => (HDc.out w).mono fun e w' h => (show e = .returned (.tuple #[.int .i64 (c : Int), .int .i64 (u : Int), .bool true]) ∧ Drawn w w' from ⟨h.1 c u rfl, h.2.2⟩))
  have HSu := Lib.hid (fun w => HSk.out u hu w)
  unfold SkipR at HSu
  obtain ⟨x, hx⟩ : ∃ x, takeX K W T m f a s (u : Int) = x := ⟨_, rfl⟩
  rw [hx] at HSu
  have HXX := Lib.hid hx
  clear HDc hR hbd HSk hx
  go_enter Tryz.func39, Tryz.ntmps39
  go_wp2_with fail
  rw [← HW.out]
  refine HT.out.mono ?_
  rintro e w1 ⟨rfl, b1⟩
  have HBb := Lib.hid b1
  clear b1
  go_wp2_with fail
  refine (HDn.out _).mono ?_
  rintro e w2 ⟨rfl, dd⟩
  have b2 : Below W1.heap.size W1 w2 := Base.Below.nextA HBb.out (((Below.refl _ _).alloc (Nat.le_refl _) _).trans ((dd.below (B := (w1.alloc (.cells #[.int .i64 K, .int .i64 W, .int .i64 T, .int .i64 m, .int .i64 f, .int .i64 a, .int .i64 x4] 29)).heap.size)).mono (by simp)))
  have t0 := HS.out.below b2 HS.out.lt
  have c0 := (t0).c0; have c1 := (t0).c1; have c2 := (t0).c2; have c3 := (t0).c3; have c4 := (t0).c4; have c5 := (t0).c5; have c6 := (t0).c6
  have HBw := Lib.hid b2
  clear dd b2 t0
  go_wp2_with fail
  refine (HSu.out _).mono ?_
  rintro e w3 ⟨rfl, b3⟩
  have b4 := Base.Below.nextA HBw.out b3
  have r0 := HR.out.below b4 HR.out.lt
  have d0 := (r0).c0; have d1 := (r0).c1; have d2 := (r0).c2; have d3 := (r0).c3; have d4 := (r0).c4; have d5 := (r0).c5; have d6 := (r0).c6
  have g0 := (r0).frz 0; have g1 := (r0).frz 1; have g2 := (r0).frz 2; have g3 := (r0).frz 3; have g4 := (r0).frz 4; have g5 := (r0).frz 5; have g6 := (r0).frz 6
  have S8 := r0.set7 K W T m f a x
  have p0 := (S8).c0; have p1 := (S8).c1; have p2 := (S8).c2; have p3 := (S8).c3; have p4 := (S8).c4; have p5 := (S8).c5; have p6 := (S8).c6
  simp only [set7] at p0 p1 p2 p3 p4 p5 p6
  have HB2 := Lib.hid (below_set7 (b := w.heap.size + 1) (HB1.out.trans (b4.mono HB1.out.size)) (Nat.le_succ _) (Nat.le_trans HB1.out.size b4.size) K W T m f a x)
  clear S8 r0 b3 b4 c0 c1 c2 c3 c4 c5 c6
  go_wp2
  exact bodyPost_ret (v := .tuple #[.int .i64 (c : Int), .agg #[.int .i64 K, .int .i64 W, .int .i64 T, .int .i64 m, .int .i64 f, .int .i64 a, .int .i64 x], .bool true]) (by simp [results, Tryz.results39, go_sem, p0, p1, p2, p3, p4, p5, p6]) rfl (FaceRet.yes rfl (by rw [HXX.out]) HB2.out)
set_option maxHeartbeats 1000000 in
set_option maxRecDepth 100000 in
theorem roll_any {K W T m f a s : Int} (hB : streamB K W T m f a s = true) (n : Nat) (hn : 0 < n) (hn2 : n ≤ 1000000) (w : World) :
  Calls Tryz.prog 36 #[.agg #[.int .i64 K, .int .i64 W, .int .i64 T, .int .i64 m, .int .i64 f, .int .i64 a, .int .i64 s], .int .i64 (n : Int)] w (FaceRet K W T m f a s (faceR K W T m f a s n hn) w) := by
 obtain ⟨W1, hW1, S, R, B⟩ := two w K W T m f a s
 have HT := Lib.hid (implTake_yes hB (c := 400) (inR_yes (by omega)) W1)
 have HDc := Lib.hid (fun w => rollDice_any n hn hn2 ⟨(takeL K W T m f a s 400).toArray⟩ (by rw [takeL_size]; decide) (takeL_bits _ _ _ _ _ _ _ _) w)
 have HSk := Lib.hid (fun (u : Nat) (hu : u ≤ 400) w => implTake_yes hB (c := (u : Int)) (inR_yes (by omega)) w)
 have hbd : ∀ c u, faceR K W T m f a s n hn = some (c, u) → c < n ∧ u ≤ 400 := fun c u h => faceR_bd hn2 h
 unfold faceR at hbd
 unfold faceR
 unfold TakeR at HT
 generalize takeX K W T m f a s 400 = x4 at *
 generalize (⟨(takeL K W T m f a s 400).toArray⟩ : ByteArray) = bs at *
 have HW := Lib.hid hW1
 have HS := Lib.hid S
 have HR := Lib.hid R
 have HB1 := Lib.hid B
 have hB0 := Lib.hid hB
 clear hW1 S R B hB
 cases hR : diceR n hn bs 1 0 0 with
 | none =>
  rw [hR] at HDc
  have HDn := Lib.hid (fun w => (HDc.out w).mono fun e w' h => (show e = .returned (.tuple #[.int .i64 0, .int .i64 0, .bool false]) ∧ Drawn w w' from ⟨h.2.1 rfl, h.2.2⟩))
  clear HDc hR hbd
  go_enter Tryz.func36, Tryz.ntmps36
  go_wp2_with fail
  rw [← HW.out]
  refine HT.out.mono ?_
  rintro e w1 ⟨rfl, b1⟩
  have HBb := Lib.hid b1
  clear b1
  go_wp2_with fail
  refine (HDn.out _).mono ?_
  rintro e w2 ⟨rfl, dd⟩
  have b2 : Below W1.heap.size W1 w2 := Base.Below.nextA HBb.out (((Below.refl _ _).alloc (Nat.le_refl _) _).trans ((dd.below (B := (w1.alloc (.cells #[.int .i64 K, .int .i64 W, .int .i64 T, .int .i64 m, .int .i64 f, .int .i64 a, .int .i64 x4] 29)).heap.size)).mono (by simp)))
  have r0 := HR.out.below b2 HR.out.lt
  have d0 := (r0).c0; have d1 := (r0).c1; have d2 := (r0).c2; have d3 := (r0).c3; have d4 := (r0).c4; have d5 := (r0).c5; have d6 := (r0).c6
  have g0 := (r0).frz 0; have g1 := (r0).frz 1; have g2 := (r0).frz 2; have g3 := (r0).frz 3; have g4 := (r0).frz 4; have g5 := (r0).frz 5; have g6 := (r0).frz 6
  have S8 := r0.set7 0 0 0 0 0 0 0
  have p0 := (S8).c0; have p1 := (S8).c1; have p2 := (S8).c2; have p3 := (S8).c3; have p4 := (S8).c4; have p5 := (S8).c5; have p6 := (S8).c6
  simp only [set7] at p0 p1 p2 p3 p4 p5 p6
  have HB2 := Lib.hid (below_set7 (b := w.heap.size + 1) (HB1.out.trans (b2.mono HB1.out.size)) (Nat.le_succ _) (Nat.le_trans HB1.out.size b2.size) 0 0 0 0 0 0 0)
  clear S8 r0 b2 dd
  go_wp2
  exact bodyPost_ret (v := .tuple #[.int .i64 0, .agg #[.int .i64 0, .int .i64 0, .int .i64 0, .int .i64 0, .int .i64 0, .int .i64 0, .int .i64 0], .bool false]) (by simp [results, Tryz.results36, go_sem, p0, p1, p2, p3, p4, p5, p6]) rfl (FaceRet.no rfl rfl HB2.out)
 | some p =>
  obtain ⟨c, u⟩ := p
  obtain ⟨hc, hu⟩ := hbd c u hR
  rw [hR] at HDc
  have HDn := Lib.hid (fun w => (HDc.out w).mono fun e w' h => (show e = .returned (.tuple #[.int .i64 (c : Int), .int .i64 (u : Int), .bool true]) ∧ Drawn w w' from ⟨h.1 c u rfl, h.2.2⟩))
  have HSu := Lib.hid (fun w => HSk.out u hu w)
  unfold TakeR at HSu
  generalize (⟨(takeL K W T m f a s (u : Int)).toArray⟩ : ByteArray) = bu at HSu
  obtain ⟨x, hx⟩ : ∃ x, takeX K W T m f a s (u : Int) = x := ⟨_, rfl⟩
  rw [hx] at HSu
  have HXX := Lib.hid hx
  clear HDc hR hbd HSk hx
  go_enter Tryz.func36, Tryz.ntmps36
  go_wp2_with fail
  rw [← HW.out]
  refine HT.out.mono ?_
  rintro e w1 ⟨rfl, b1⟩
  have HBb := Lib.hid b1
  clear b1
  go_wp2_with fail
  refine (HDn.out _).mono ?_
  rintro e w2 ⟨rfl, dd⟩
  have b2 : Below W1.heap.size W1 w2 := Base.Below.nextA HBb.out (((Below.refl _ _).alloc (Nat.le_refl _) _).trans ((dd.below (B := (w1.alloc (.cells #[.int .i64 K, .int .i64 W, .int .i64 T, .int .i64 m, .int .i64 f, .int .i64 a, .int .i64 x4] 29)).heap.size)).mono (by simp)))
  have t0 := HS.out.below b2 HS.out.lt
  have c0 := (t0).c0; have c1 := (t0).c1; have c2 := (t0).c2; have c3 := (t0).c3; have c4 := (t0).c4; have c5 := (t0).c5; have c6 := (t0).c6
  have HBw := Lib.hid b2
  clear dd b2 t0
  go_wp2_with fail
  refine (HSu.out _).mono ?_
  rintro e w3 ⟨rfl, b3⟩
  have b4 := Base.Below.nextA HBw.out b3
  have r0 := HR.out.below b4 HR.out.lt
  obtain ⟨w4, hw4⟩ : ∃ w4, w4 = w3.alloc (.cells #[.int .i64 K, .int .i64 W, .int .i64 T, .int .i64 m, .int .i64 f, .int .i64 a, .int .i64 x] 29) := ⟨_, rfl⟩
  have b5 : Below w3.heap.size w3 w4 := by rw [hw4]; exact (Below.refl _ _).alloc (Nat.le_refl _) _
  have u0 : SBox w4 w3.heap.size K W T m f a x := by rw [hw4]; exact SBox.new _ _ _ _ _ _ _ _
  have u1 := r0.below b5 r0.lt
  have HW4 := Lib.hid hw4
  have HB4 := Lib.hid (HB1.out.trans ((Base.Below.nextA b4 b5).mono HB1.out.size))
  have hlt := r0.lt
  have x0 := (u0).c0; have x1 := (u0).c1; have x2 := (u0).c2; have x3 := (u0).c3; have x4 := (u0).c4; have x5 := (u0).c5; have x6 := (u0).c6
  have h0 := (u1).c0; have h1 := (u1).c1; have h2 := (u1).c2; have h3 := (u1).c3; have h4 := (u1).c4; have h5 := (u1).c5; have h6 := (u1).c6
  have g0 := (u1).frz 0; have g1 := (u1).frz 1; have g2 := (u1).frz 2; have g3 := (u1).frz 3; have g4 := (u1).frz 4; have g5 := (u1).frz 5; have g6 := (u1).frz 6
  have S8 := u1.set7 K W T m f a x
  have p0 := (S8).c0; have p1 := (S8).c1; have p2 := (S8).c2; have p3 := (S8).c3; have p4 := (S8).c4; have p5 := (S8).c5; have p6 := (S8).c6
  simp only [set7] at p0 p1 p2 p3 p4 p5 p6
  have B7 := Lib.hid (HB4.out.trans (grown_below (grown_set7 w4 (w.heap.size + 1) K W T m f a x) (fun g e => by cases e; exact Nat.le_succ _) HB4.out.size))
  have mixed : Tryz.prog.follows .mixedOrders = true := by kernel_rfl
  clear r0 hw4 u0 u1 S8 b3 b4 b5 c0 c1 c2 c3 c4 c5 c6
  go_wp2_with fail
  rw [← HW4.out]
  go_region_o
  all_goals
   go_wp2
   exact bodyPost_ret (v := .tuple #[.int .i64 (c : Int), .agg #[.int .i64 K, .int .i64 W, .int .i64 T, .int .i64 m, .int .i64 f, .int .i64 a, .int .i64 x], .bool true]) (by simp [results, Tryz.results36, go_sem, p0, p1, p2, p3, p4, p5, p6]) rfl (FaceRet.yes rfl (by rw [HXX.out]) (Below.drew B7.out))
end Go.Proofs.YtgipnbeipfhekaaGreatDoor.Face
namespace Go.Proofs.YtgipnbeipfhekaaGreatDoor.Face
open Go.RowKit Go.Proofs.YtgipnbeipfhekaaGreatDoor Go.Proofs.YtgipnbeipfhekaaGreatDoor.Base Go.Proofs.YtgipnbeipfhekaaGreatDoor.Mem Go.Proofs.YtgipnbeipfhekaaGreatDoor.Reg Go.Proofs.YtgipnbeipfhekaaGreatDoor.Str Go.Proofs.YtgipnbeipfhekaaGreatDoor.Take Go.Proofs.YtgipnbeipfhekaaGreatDoor.Skip Go.Proofs.YtgipnbeipfhekaaGreatDoor.Dice
set_option linter.unusedVariables false
def facesA (K W T m f a : Int) (n : Nat) (hn : 0 < n) : Nat → Int → List Int → Option (List Int × Int)
 | 0, s, L => some (L, s)
 | k + 1, s, L => match faceR K W T m f a s n hn with
  | none => none
  | some (c, u) => facesA K W T m f a n hn k (takeX K W T m f a s (u : Int)) (L ++ [(c : Int)])
theorem facesA_none {K W T m f a s : Int} {n k : Nat} {hn : 0 < n} {L : List Int} (h : faceR K W T m f a s n hn = none) : facesA K W T m f a n hn (k + 1) s L = none := by
 unfold facesA; rw [h]
theorem facesA_some {K W T m f a s : Int} {n k c u : Nat} {hn : 0 < n} {L : List Int} (h : faceR K W T m f a s n hn = some (c, u)) : facesA K W T m f a n hn (k + 1) s L = facesA K W T m f a n hn k (takeX K W T m f a s (u : Int)) (L ++ [(c : Int)]) := by
 conv => lhs; unfold facesA
 rw [h]
theorem own_not_str {w : World} {B b n : Nat} {v : Value} {xs : List Value} {K W T m f a s : Int} (h : w.ownsRow B 2 1 v n xs) (hb : SBox w b K W T m f a s) : v.ownBlock ≠ some b := fun he => by
 obtain ⟨cur, h1, _⟩ := ownsRow_block h he
 unfold SBox at hb
 rw [hb] at h1
 injection h1 with h1
 injection h1 with _ h2
 cases h2
theorem own_set7 {w : World} {B b n : Nat} {v : Value} {xs : List Value} {K W T m f a s : Int} (h : w.ownsRow B 2 1 v n xs) (hb : SBox w b K W T m f a s) (K' W' T' m' f' a' s' : Int) : (set7 w b K' W' T' m' f' a' s').ownsRow B 2 1 v n xs := by
 refine World.ownsRow.kept h (grown_set7 w b K' W' T' m' f' a' s') ?_
 rcases hv : v.ownBlock with _ | q
 ·exact .inl rfl
 ·refine .inr fun e1 => own_not_str h hb ?_
  rw [hv]; exact e1
theorem faces_next {B bx bz : Nat} {L : List Int} {v v' : Value} {c s s2 K W T m f a : Int} {w wr w2 w3 : World} (hO : OwnI wr B v L) (hX : SBox wr bx K W T m f a s) (hZ : SBox wr bz 0 0 0 0 0 0 0) (hne : bx ≠ bz) (hbB : w.heap.size ≤ B) (hbx : w.heap.size ≤ bx)
  (hb : Below w.heap.size w wr) (h2 : Below wr.heap.size wr w2) (hown : w3.ownsRow B 2 1 v' (L.length + 1) (ints L ++ [.int .i64 c])) (hg : w2.grownBy w3 v.ownBlock) :
  OwnI (set7 w3 bx K W T m f a s2) B v' (L ++ [c]) ∧ SBox (set7 w3 bx K W T m f a s2) bx K W T m f a s2 ∧ SBox (set7 w3 bx K W T m f a s2) bz 0 0 0 0 0 0 0 ∧ Below w.heap.size w (set7 w3 bx K W T m f a s2) ∧ SBox w3 bx K W T m f a s ∧ SBox w3 bz 0 0 0 0 0 0 0 := by
 have hX2 := hX.below h2 hX.lt
 have hZ2 := hZ.below h2 hZ.lt
 have hO2 : w2.ownsRow B 2 1 v L.length (ints L) := ownsRow_below hO h2
 have hX3 := hX2.kept hg (own_not_str hO2 hX2)
 have hZ3 := hZ2.kept hg (own_not_str hO2 hZ2)
 have b3 : Below w.heap.size w w3 := (hb.trans (h2.mono hb.size)).trans (grown_below hg (fun g he => by
  obtain ⟨_, _, h3, _⟩ := ownsRow_block hO he
  omega) (Nat.le_trans hb.size h2.size))
 refine ⟨?_, hX3.set7 K W T m f a s2, hZ3.kept (grown_set7 w3 bx K W T m f a s2) (fun e => hne (Option.some.inj e)), b3.trans (grown_below (grown_set7 w3 bx K W T m f a s2) (fun g e => by cases e; exact hbx) b3.size), hX3, hZ3⟩
 unfold OwnI
 rw [List.length_append, show ints (L ++ [c]) = ints L ++ [.int .i64 c] by simp [ints]]
 exact own_set7 hown hX3 K W T m f a s2
def FsRet (K W T m f a : Int) (R : Option (List Int × Int)) (w : World) (e : Ending) (w' : World) : Prop :=
 (∀ L s', R = some (L, s') → ∃ A c, e = .returned (.tuple #[.slice A L.length c, .agg #[.int .i64 K, .int .i64 W, .int .i64 T, .int .i64 m, .int .i64 f, .int .i64 a, .int .i64 s'], .bool true]) ∧ OwnI w' w.heap.size (.slice A L.length c) L) ∧ (R = none → e = .returned (.tuple #[.slice none 0 0, .agg #[.int .i64 0, .int .i64 0, .int .i64 0, .int .i64 0, .int .i64 0, .int .i64 0, .int .i64 0], .bool false])) ∧ Below w.heap.size w w'
theorem FsRet.yes {K W T m f a s' : Int} {L : List Int} {R : Option (List Int × Int)} {w w' : World} {e : Ending} {A : Option Addr} {c : Nat} (h : R = some (L, s')) (he : e = .returned (.tuple #[.slice A L.length c, .agg #[.int .i64 K, .int .i64 W, .int .i64 T, .int .i64 m, .int .i64 f, .int .i64 a, .int .i64 s'], .bool true])) (ho : OwnI w' w.heap.size (.slice A L.length c) L) (hd : Below w.heap.size w w') : FsRet K W T m f a R w e w' :=
 ⟨fun L' s2 h2 => (by rw [h] at h2; injection h2 with h2; injection h2 with h3 h4; subst h3 h4; exact ⟨A, c, he, ho⟩), fun h2 => (by rw [h] at h2; cases h2), hd⟩
theorem FsRet.no {K W T m f a : Int} {R : Option (List Int × Int)} {w w' : World} {e : Ending} (h : R = none) (he : e = .returned (.tuple #[.slice none 0 0, .agg #[.int .i64 0, .int .i64 0, .int .i64 0, .int .i64 0, .int .i64 0, .int .i64 0, .int .i64 0], .bool false])) (hd : Below w.heap.size w w') : FsRet K W T m f a R w e w' :=
 ⟨fun L' s2 h2 => (by rw [h] at h2; cases h2), fun _ => he, hd⟩
def FsRel (K W T m f a : Int) (n : Nat) (hn : 0 < n) (R : Option (List Int × Int)) (B bx bz : Nat) (w : World) (cv ov : Value) (wr : World) : Prop :=
 ∃ (k : Nat) (L : List Int) (s : Int), cv = .int .i64 (k : Int) ∧ L.length + k ≤ 40 ∧ Hid (OwnI wr B ov L) ∧ Hid (SBox wr bx K W T m f a s) ∧ Hid (SBox wr bz 0 0 0 0 0 0 0) ∧ Hid (streamB K W T m f a s = true) ∧ Hid (facesA K W T m f a n hn k s L = R) ∧ Hid (Below w.heap.size w wr)
def facesR (K W T m f a s n c : Int) : Option (List Int × Int) := if h : 0 < n.toNat then (if (streamB K W T m f a s && (inR n 1 16 && inR c 0 40)) = true then facesA K W T m f a n.toNat h c.toNat s [] else none) else none
theorem facesR_no {K W T m f a s n c : Int} (h : (streamB K W T m f a s && (inR n 1 16 && inR c 0 40)) = false) : facesR K W T m f a s n c = none := by
 unfold facesR
 split <;> simp [h]
theorem facesR_yes {K W T m f a s : Int} {n c : Nat} (hn : 0 < n) (h : (streamB K W T m f a s && (inR (n : Int) 1 16 && inR (c : Int) 0 40)) = true) : facesR K W T m f a s (n : Int) (c : Int) = facesA K W T m f a n hn c s [] := by
 unfold facesR
 simp only [Int.toNat_natCast]
 rw [dif_pos hn, if_pos h]
set_option maxHeartbeats 2000000 in
set_option maxRecDepth 100000 in
theorem specFaces_yes {K W T m f a s : Int} (hB : streamB K W T m f a s = true) (n c : Nat) (hn : 0 < n) (hn2 : n ≤ 16) (hc : c ≤ 40) (w : World) : Calls Tryz.prog 14 #[.agg #[.int .i64 K, .int .i64 W, .int .i64 T, .int .i64 m, .int .i64 f, .int .i64 a, .int .i64 s], .int .i64 (n : Int), .int .i64 (c : Int)] w (FsRet K W T m f a (facesA K W T m f a n hn c s []) w) := by
 obtain ⟨W1, hW1, S, R, B⟩ := two w K W T m f a s
 obtain ⟨i0, hi, hz0, hz1, hz2⟩ := info_parts infoI
 have HI := Lib.hid (l11Is_any w.heap.size K W T m f a s W1 S.c0 S.c1 S.c2 S.c3 S.c4 S.c5 S.c6)
 rw [hB] at HI
 have HN := Lib.hid (fun w => l00In_any (n : Int) 1 16 w)
 rw [inR_yes (n := (n : Int)) (lo := 1) (hi := 16) (by omega)] at HN
 have HC := Lib.hid (fun w => l00In_any (c : Int) 0 40 w)
 rw [inR_yes (n := (c : Int)) (lo := 0) (hi := 40) (by omega)] at HC
 have HF := Lib.hid (fun s (h : streamB K W T m f a s = true) w => l11Face_any h n hn (by omega) w)
 have hZ : W1.heap.size = w.heap.size + 2 := by rw [hW1]; simp
 generalize hA : facesA K W T m f a n hn c s [] = RR
 have HA := Lib.hid hA
 have HW := Lib.hid hW1
 have HS := Lib.hid S
 have HR := Lib.hid R
 have HB1 := Lib.hid B
 have HZ := Lib.hid hZ
 have HBs := Lib.hid hB
 clear hW1 S R B hB hA hZ
 go_enter Tryz.func14, Tryz.ntmps14
 go_wp2_with fail
 rw [← HW.out]
 refine HI.out.mono ?_
 rintro e w1 ⟨rfl, k1, hw1⟩
 have b1 : Below W1.heap.size W1 w1 := by rw [hw1]; exact below_drewN (Below.refl _ _) k1
 have hsz : w.heap.size + 2 ≤ w1.heap.size := by have := b1.size; have := HZ.out; omega
 have t1 := HS.out.below b1 HS.out.lt
 have r1 := HR.out.below b1 HR.out.lt
 have BB := Lib.hid (HB1.out.trans (b1.mono HB1.out.size))
 have H0 : Hid (FsRel K W T m f a n hn RR w1.heap.size (w1.heap.size + 1) (w.heap.size + 1) w (.int .i64 (c : Int)) (.slice (some ⟨w1.heap.size, 0, none⟩) 0 0) ((w1.alloc (.cells #[] 2)).alloc (.cells #[.int .i64 K, .int .i64 W, .int .i64 T, .int .i64 m, .int .i64 f, .int .i64 a, .int .i64 s] 29))) := Lib.hid (by
  have q := own_lit (B := w1.heap.size) w1 (Nat.le_refl _) [] (by simp)
  have q2 : OwnI (w1.alloc (.cells #[] 2)) w1.heap.size (.slice (some ⟨w1.heap.size, 0, none⟩) 0 0) [] := q
  have bx := (Below.refl w1.heap.size w1).alloc (Nat.le_refl _) (.cells #[] 2)
  have by_ := (Below.refl (w1.alloc (.cells #[] 2)).heap.size (w1.alloc (.cells #[] 2))).alloc (Nat.le_refl _) (.cells #[.int .i64 K, .int .i64 W, .int .i64 T, .int .i64 m, .int .i64 f, .int .i64 a, .int .i64 s] 29)
  have k2 := SBox.new (w1.alloc (.cells #[] 2)) K W T m f a s
  rw [World.size_alloc] at k2
  exact ⟨c, [], s, rfl, by simpa using hc, Lib.hid (ownsRow_below q2 by_), Lib.hid k2, Lib.hid ((r1.below bx r1.lt).below by_ (Nat.lt_of_lt_of_le r1.lt bx.size)), HBs, HA, Lib.hid ((BB.out.trans (bx.mono BB.out.size)).trans (by_.mono (Nat.le_trans BB.out.size bx.size)))⟩)
 have hlw : w.heap.size < w1.heap.size := by omega
 have c0 := (t1).c0; have c1 := (t1).c1; have c2 := (t1).c2; have c3 := (t1).c3; have c4 := (t1).c4; have c5 := (t1).c5; have c6 := (t1).c6
 clear b1 t1 r1 hw1
 go_wp2_with fail
 refine (HN.out _).mono ?_
 rintro e w' ⟨rfl, rfl⟩
 go_wp2_with fail
 refine (HC.out _).mono ?_
 rintro e w' ⟨rfl, rfl⟩
 go_wp2
 go_loopw [2, 9] (fun cv ov wr => FsRel K W T m f a n hn RR w1.heap.size (w1.heap.size + 1) (w.heap.size + 1) w cv ov wr) (fun cv _ _ => (intOf cv).toNat)
 case atStart => exact H0.out
 case round =>
  obtain ⟨k, L, sc, rfl, hkL, HO, HX, HZb, HBc, HAc, HBl⟩ := hrel
  clear H0 c0 c1 c2 c3 c4 c5 c6
  have hzb := HZb.out.lt
  have hxb := HX.out.lt
  by_cases hk : 0 < k
  ·obtain ⟨j, rfl⟩ : ∃ j, k = j + 1 := ⟨k - 1, by omega⟩
   have HFs := Lib.hid (fun w => HF.out sc HBc.out w)
   have x0 := (HX.out).c0; have x1 := (HX.out).c1; have x2 := (HX.out).c2; have x3 := (HX.out).c3; have x4 := (HX.out).c4; have x5 := (HX.out).c5; have x6 := (HX.out).c6
   cases hr : faceR K W T m f a sc n hn with
   | none =>
    rw [hr] at HFs
    have HFn := Lib.hid (fun w => (HFs.out w).mono fun e w' h => (show e = .returned (.tuple #[.int .i64 0, .agg #[.int .i64 0, .int .i64 0, .int .i64 0, .int .i64 0, .int .i64 0, .int .i64 0, .int .i64 0], .bool false]) ∧ Below w.heap.size w w' from ⟨h.2.1 rfl, h.2.2⟩))
    have HNo := Lib.hid ((facesA_none (k := j) (L := L) hr).symm.trans HAc.out).symm
    clear hr HFs
    go_wp2_with fail
    refine (HFn.out _).mono ?_
    rintro e w2 ⟨rfl, b2⟩
    have hz3 : w.heap.size + 1 < w2.heap.size := by have := b2.size; omega
    have RY := HZb.out.below b2 HZb.out.lt
    have BB3 := Lib.hid (HBl.out.trans (b2.mono HBl.out.size))
    clear b2 x0 x1 x2 x3 x4 x5 x6
    have d0 := (RY).c0; have d1 := (RY).c1; have d2 := (RY).c2; have d3 := (RY).c3; have d4 := (RY).c4; have d5 := (RY).c5; have d6 := (RY).c6
    have g0 := (RY).frz 0; have g1 := (RY).frz 1; have g2 := (RY).frz 2; have g3 := (RY).frz 3; have g4 := (RY).frz 4; have g5 := (RY).frz 5; have g6 := (RY).frz 6
    have S8 := (RY.set7 0 0 0 0 0 0 0).below ((Below.refl _ _).alloc (Nat.le_refl _) (.cells #[.int .i64 0, .int .i64 0, .int .i64 0, .int .i64 0, .int .i64 0, .int .i64 0, .int .i64 0] 29)) (RY.set7 0 0 0 0 0 0 0).lt
    have p0 := (S8).c0; have p1 := (S8).c1; have p2 := (S8).c2; have p3 := (S8).c3; have p4 := (S8).c4; have p5 := (S8).c5; have p6 := (S8).c6
    simp only [set7] at p0 p1 p2 p3 p4 p5 p6
    have hs7 := (grown_set7 w2 (w.heap.size + 1) 0 0 0 0 0 0 0).size
    have HBN := Lib.hid ((below_set7 (b := w.heap.size + 1) BB3.out (Nat.le_succ _) BB3.out.size 0 0 0 0 0 0 0).alloc (Nat.le_trans BB3.out.size hs7) (.cells #[.int .i64 0, .int .i64 0, .int .i64 0, .int .i64 0, .int .i64 0, .int .i64 0, .int .i64 0] 29))
    clear S8 RY hs7
    go_wp2
    exact bodyPost_ret (v := .tuple #[.slice none 0 0, .agg #[.int .i64 0, .int .i64 0, .int .i64 0, .int .i64 0, .int .i64 0, .int .i64 0, .int .i64 0], .bool false]) (by simp [results, Tryz.results14, go_sem, p0, p1, p2, p3, p4, p5, p6]) rfl (FsRet.no HNo.out rfl HBN.out)
   | some p =>
    obtain ⟨cf, uf⟩ := p
    rw [hr] at HFs
    have HFn := Lib.hid (fun w => (HFs.out w).mono fun e w' h => (show e = .returned (.tuple #[.int .i64 (cf : Int), .agg #[.int .i64 K, .int .i64 W, .int .i64 T, .int .i64 m, .int .i64 f, .int .i64 a, .int .i64 (takeX K W T m f a sc (uf : Int))], .bool true]) ∧ Below w.heap.size w w' from ⟨h.1 cf uf rfl, h.2.2⟩))
    have HA2 := Lib.hid ((facesA_some (k := j) (L := L) hr).symm.trans HAc.out)
    have HB2 := Lib.hid (streamB_takeX (c := (uf : Int)) HBc.out)
    clear hr HFs
    obtain ⟨x, hx⟩ : ∃ x, takeX K W T m f a sc (uf : Int) = x := ⟨_, rfl⟩
    rw [hx] at HFn HA2 HB2
    clear hx
    go_wp2_with fail
    refine (HFn.out _).mono ?_
    rintro e w2 ⟨rfl, b2⟩
    have bz : Below w2.heap.size w2 (w2.alloc (.cells #[.int .i64 K, .int .i64 W, .int .i64 T, .int .i64 m, .int .i64 f, .int .i64 a, .int .i64 x] 29)) := (Below.refl _ _).alloc (Nat.le_refl _) _
    have ba : Below (w2.alloc (.cells #[.int .i64 K, .int .i64 W, .int .i64 T, .int .i64 m, .int .i64 f, .int .i64 a, .int .i64 x] 29)).heap.size (w2.alloc (.cells #[.int .i64 K, .int .i64 W, .int .i64 T, .int .i64 m, .int .i64 f, .int .i64 a, .int .i64 x] 29)) ((w2.alloc (.cells #[.int .i64 K, .int .i64 W, .int .i64 T, .int .i64 m, .int .i64 f, .int .i64 a, .int .i64 x] 29)).alloc (.cells #[.int .i64 (cf : Int)] 2)) := (Below.refl _ _).alloc (Nat.le_refl _) _
    have b4 := Base.Below.nextA (Base.Below.nextA b2 bz) ba
    have hown := ownsRow_below HO.out b4
    have U0 := ((SBox.new w2 K W T m f a x).below ba (by simp))
    have HU := Lib.hid U0
    have HWn := Lib.hid hown
    have HB4 := Lib.hid b4
    have hlz2 : w1.heap.size + 1 < w2.heap.size := by have := b2.size; omega
    clear b2 bz ba b4 hown U0 x0 x1 x2 x3 x4 x5 x6
    go_wp2_with (at_builtin; refine wpList_append_own_at _ rfl (.tmp 43) (.tmp 45) 43 rfl w1.heap.size 2 i0 (.int .i64 0) 1 8 Tryz.underlying43 hi hz0 hz1 hz2 rfl (by decide) _ _ _ rfl HWn.out ⟨(w2.heap.size + 1), 0, none⟩ 1 1 [.int .i64 (cf : Int)] rfl rfl ?p1a ?p2a ?p3a ?p4a ?p5a ?_)
    try case p1a => exact news_one _ _ _ (by simp)
    try case p2a => first | exact one_int | rfl | simp
    try case p3a => first | (simp only [maxLen]; omega) | omega
    try case p4a => omega
    try case p5a => first | (simp only [World.size_alloc]; omega) | omega
    intro v' w3 hown' hg' _ he
    have HN := Lib.hid (faces_next (c := (cf : Int)) (s2 := x) HO.out HX.out HZb.out (by omega) (by omega) (by omega) HBl.out HB4.out hown' hg')
    have q := HN.out.2.2.2.2.1
    have qn := HU.out.kept hg' (own_not_str HWn.out HU.out)
    have y0 := (q).c0; have y1 := (q).c1; have y2 := (q).c2; have y3 := (q).c3; have y4 := (q).c4; have y5 := (q).c5; have y6 := (q).c6
    have z0 := (q).frz 0; have z1 := (q).frz 1; have z2 := (q).frz 2; have z3 := (q).frz 3; have z4 := (q).frz 4; have z5 := (q).frz 5; have z6 := (q).frz 6
    have x0 := (qn).c0; have x1 := (qn).c1; have x2 := (qn).c2; have x3 := (qn).c3; have x4 := (qn).c4; have x5 := (qn).c5; have x6 := (qn).c6
    have hq : w2.heap.size < w3.heap.size := qn.lt
    clear hown' hg' he q qn
    go_wp2
    go_roundw
    case rel => exact ⟨j, L ++ [(cf : Int)], x, by go_num, by simp; omega, Lib.hid HN.out.1, Lib.hid HN.out.2.1, Lib.hid HN.out.2.2.1, HB2, HA2, Lib.hid HN.out.2.2.2.1⟩
    case measure => simp [intOf]
  ·obtain rfl : k = 0 := by omega
   obtain ⟨A, cp, eA, _⟩ := HO.out.form
   subst eA
   have HAe := Lib.hid (show RR = some (L, sc) from by rw [← HAc.out]; rfl)
   have x0 := (HX.out).c0; have x1 := (HX.out).c1; have x2 := (HX.out).c2; have x3 := (HX.out).c3; have x4 := (HX.out).c4; have x5 := (HX.out).c5; have x6 := (HX.out).c6
   have h0 := (HZb.out).c0; have h1 := (HZb.out).c1; have h2 := (HZb.out).c2; have h3 := (HZb.out).c3; have h4 := (HZb.out).c4; have h5 := (HZb.out).c5; have h6 := (HZb.out).c6
   have g0 := (HZb.out).frz 0; have g1 := (HZb.out).frz 1; have g2 := (HZb.out).frz 2; have g3 := (HZb.out).frz 3; have g4 := (HZb.out).frz 4; have g5 := (HZb.out).frz 5; have g6 := (HZb.out).frz 6
   have S8 := HZb.out.set7 K W T m f a sc
   have p0 := (S8).c0; have p1 := (S8).c1; have p2 := (S8).c2; have p3 := (S8).c3; have p4 := (S8).c4; have p5 := (S8).c5; have p6 := (S8).c6
   simp only [set7] at p0 p1 p2 p3 p4 p5 p6
   have B7 := Lib.hid (HBl.out.trans (grown_below (grown_set7 wr (w.heap.size + 1) K W T m f a sc) (fun g e => by cases e; exact Nat.le_succ _) HBl.out.size))
   have O7 := Lib.hid (own_set7 HO.out HZb.out K W T m f a sc)
   have mixed : Tryz.prog.follows .mixedOrders = true := by kernel_rfl
   clear S8
   go_wp2_with fail
   go_region_o
   all_goals
    go_wp2
    refine bodyPost_ret (v := .tuple #[.slice A L.length cp, .agg #[.int .i64 K, .int .i64 W, .int .i64 T, .int .i64 m, .int .i64 f, .int .i64 a, .int .i64 sc], .bool true]) (by simp [results, Tryz.results14, go_sem, p0, p1, p2, p3, p4, p5, p6]) rfl (FsRet.yes HAe.out rfl ?_ (Below.drew B7.out))
    exact ownsRow_base (ownsRow_below O7.out ((Below.refl _ _).drew)) (by omega)
end Go.Proofs.YtgipnbeipfhekaaGreatDoor.Face
namespace Go.Proofs.YtgipnbeipfhekaaGreatDoor.Face
open Go.RowKit Go.Proofs.YtgipnbeipfhekaaGreatDoor Go.Proofs.YtgipnbeipfhekaaGreatDoor.Base Go.Proofs.YtgipnbeipfhekaaGreatDoor.Mem Go.Proofs.YtgipnbeipfhekaaGreatDoor.Reg Go.Proofs.YtgipnbeipfhekaaGreatDoor.Str Go.Proofs.YtgipnbeipfhekaaGreatDoor.Take Go.Proofs.YtgipnbeipfhekaaGreatDoor.Skip Go.Proofs.YtgipnbeipfhekaaGreatDoor.Dice
set_option linter.unusedVariables false
def FsRelI (K W T m f a : Int) (n : Nat) (hn : 0 < n) (R : Option (List Int × Int)) (C B bx bz : Nat) (w : World) (iv ov : Value) (wr : World) : Prop :=
 ∃ (j k : Nat) (L : List Int) (s : Int), iv = .int .i64 (j : Int) ∧ j + k = C ∧ L.length + k ≤ 40 ∧ B ≤ wr.heap.size ∧ Hid (OwnI wr B ov L) ∧ Hid (SBox wr bx K W T m f a s) ∧ Hid (SBox wr bz 0 0 0 0 0 0 0) ∧ Hid (streamB K W T m f a s = true) ∧ Hid (facesA K W T m f a n hn k s L = R) ∧ Hid (Below w.heap.size w wr)
set_option maxHeartbeats 2000000 in
set_option maxRecDepth 100000 in
theorem implFaces_yes {K W T m f a s : Int} (hB : streamB K W T m f a s = true) (n c : Nat) (hn : 0 < n) (hn2 : n ≤ 16) (hc : c ≤ 40) (w : World) : Calls Tryz.prog 13 #[.agg #[.int .i64 K, .int .i64 W, .int .i64 T, .int .i64 m, .int .i64 f, .int .i64 a, .int .i64 s], .int .i64 (n : Int), .int .i64 (c : Int)] w (FsRet K W T m f a (facesA K W T m f a n hn c s []) w) := by
 obtain ⟨W1, hW1, S, R, B⟩ := two w K W T m f a s
 obtain ⟨i0, hi, hz0, hz1, hz2⟩ := info_parts infoI
 have HI := Lib.hid (validStream_any K W T m f a s W1)
 rw [hB] at HI
 have HN := Lib.hid (fun w => inRange_any (n : Int) 1 16 w)
 rw [inR_yes (n := (n : Int)) (lo := 1) (hi := 16) (by omega)] at HN
 have HC := Lib.hid (fun w => inRange_any (c : Int) 0 40 w)
 rw [inR_yes (n := (c : Int)) (lo := 0) (hi := 40) (by omega)] at HC
 have HF := Lib.hid (fun s (h : streamB K W T m f a s = true) w => roll_any h n hn (by omega) w)
 have hZ : W1.heap.size = w.heap.size + 2 := by rw [hW1]; simp
 generalize hA : facesA K W T m f a n hn c s [] = RR
 have HA := Lib.hid hA
 have HW := Lib.hid hW1
 have HS := Lib.hid S
 have HR := Lib.hid R
 have HB1 := Lib.hid B
 have HZ := Lib.hid hZ
 have HBs := Lib.hid hB
 clear hW1 S R B hB hA hZ
 go_enter Tryz.func13, Tryz.ntmps13
 go_wp2_with fail
 rw [← HW.out]
 refine HI.out.mono ?_
 rintro e w1 ⟨rfl, b1⟩
 have hsz : w.heap.size + 2 ≤ w1.heap.size := by have := b1.size; have := HZ.out; omega
 have t1 := HS.out.below b1 HS.out.lt
 have r1 := HR.out.below b1 HR.out.lt
 have BB := Lib.hid (HB1.out.trans (b1.mono HB1.out.size))
 have H0 : Hid (FsRelI K W T m f a n hn RR c w1.heap.size w.heap.size (w.heap.size + 1) w (.int .i64 0) (.slice (some ⟨w1.heap.size, 0, none⟩) 0 0) (w1.alloc (.cells #[] 2))) := Lib.hid (by
  have q := own_lit (B := w1.heap.size) w1 (Nat.le_refl _) [] (by simp)
  have bx := (Below.refl w1.heap.size w1).alloc (Nat.le_refl _) (.cells #[] 2)
  exact ⟨0, c, [], s, rfl, by omega, by simpa using hc, by simp, Lib.hid q, Lib.hid (t1.below bx t1.lt), Lib.hid (r1.below bx r1.lt), HBs, HA, Lib.hid (BB.out.trans (bx.mono BB.out.size))⟩)
 have hlw : w.heap.size < w1.heap.size := by omega
 have c0 := (t1).c0; have c1 := (t1).c1; have c2 := (t1).c2; have c3 := (t1).c3; have c4 := (t1).c4; have c5 := (t1).c5; have c6 := (t1).c6
 clear b1 t1 r1
 go_wp2_with fail
 refine (HN.out _).mono ?_
 rintro e w' ⟨rfl, rfl⟩
 go_wp2_with fail
 refine (HC.out _).mono ?_
 rintro e w' ⟨rfl, rfl⟩
 go_wp2
 go_loopw [29, 9] (fun iv ov wr => FsRelI K W T m f a n hn RR c w1.heap.size w.heap.size (w.heap.size + 1) w iv ov wr) (fun iv _ _ => c - (intOf iv).toNat)
 case atStart => exact H0.out
 case round =>
  obtain ⟨i, k, L, sc, rfl, hik, hkL, hBw, HO, HX, HZb, HBc, HAc, HBl⟩ := hrel
  clear H0 c0 c1 c2 c3 c4 c5 c6
  have hzb := HZb.out.lt
  have hxb := HX.out.lt
  by_cases hk : 0 < k
  ·obtain ⟨j, rfl⟩ : ∃ j, k = j + 1 := ⟨k - 1, by omega⟩
   have HFs := Lib.hid (fun w => HF.out sc HBc.out w)
   have x0 := (HX.out).c0; have x1 := (HX.out).c1; have x2 := (HX.out).c2; have x3 := (HX.out).c3; have x4 := (HX.out).c4; have x5 := (HX.out).c5; have x6 := (HX.out).c6
   cases hr : faceR K W T m f a sc n hn with
   | none =>
    rw [hr] at HFs
    have HFn := Lib.hid (fun w => (HFs.out w).mono fun e w' h => (show e = .returned (.tuple #[.int .i64 0, .agg #[.int .i64 0, .int .i64 0, .int .i64 0, .int .i64 0, .int .i64 0, .int .i64 0, .int .i64 0], .bool false]) ∧ Below w.heap.size w w' from ⟨h.2.1 rfl, h.2.2⟩))
    have HNo := Lib.hid ((facesA_none (k := j) (L := L) hr).symm.trans HAc.out).symm
    clear hr HFs
    go_wp2_with fail
    refine (HFn.out _).mono ?_
    rintro e w2 ⟨rfl, b2⟩
    have hz3 : w.heap.size + 1 < w2.heap.size := by have := b2.size; omega
    have RY := HZb.out.below b2 HZb.out.lt
    have BB3 := Lib.hid (HBl.out.trans (b2.mono HBl.out.size))
    clear b2 x0 x1 x2 x3 x4 x5 x6
    have d0 := (RY).c0; have d1 := (RY).c1; have d2 := (RY).c2; have d3 := (RY).c3; have d4 := (RY).c4; have d5 := (RY).c5; have d6 := (RY).c6
    have g0 := (RY).frz 0; have g1 := (RY).frz 1; have g2 := (RY).frz 2; have g3 := (RY).frz 3; have g4 := (RY).frz 4; have g5 := (RY).frz 5; have g6 := (RY).frz 6
    have S8 := (RY.set7 0 0 0 0 0 0 0).below ((Below.refl _ _).alloc (Nat.le_refl _) (.cells #[.int .i64 0, .int .i64 0, .int .i64 0, .int .i64 0, .int .i64 0, .int .i64 0, .int .i64 0] 29)) (RY.set7 0 0 0 0 0 0 0).lt
    have p0 := (S8).c0; have p1 := (S8).c1; have p2 := (S8).c2; have p3 := (S8).c3; have p4 := (S8).c4; have p5 := (S8).c5; have p6 := (S8).c6
    simp only [set7] at p0 p1 p2 p3 p4 p5 p6
    have hs7 := (grown_set7 w2 (w.heap.size + 1) 0 0 0 0 0 0 0).size
    have HBN := Lib.hid ((below_set7 (b := w.heap.size + 1) BB3.out (Nat.le_succ _) BB3.out.size 0 0 0 0 0 0 0).alloc (Nat.le_trans BB3.out.size hs7) (.cells #[.int .i64 0, .int .i64 0, .int .i64 0, .int .i64 0, .int .i64 0, .int .i64 0, .int .i64 0] 29))
    clear S8 RY hs7
    go_wp2
    exact bodyPost_ret (v := .tuple #[.slice none 0 0, .agg #[.int .i64 0, .int .i64 0, .int .i64 0, .int .i64 0, .int .i64 0, .int .i64 0, .int .i64 0], .bool false]) (by simp [results, Tryz.results13, go_sem, p0, p1, p2, p3, p4, p5, p6]) rfl (FsRet.no HNo.out rfl HBN.out)
   | some p =>
    obtain ⟨cf, uf⟩ := p
    rw [hr] at HFs
    have HFn := Lib.hid (fun w => (HFs.out w).mono fun e w' h => (show e = .returned (.tuple #[.int .i64 (cf : Int), .agg #[.int .i64 K, .int .i64 W, .int .i64 T, .int .i64 m, .int .i64 f, .int .i64 a, .int .i64 (takeX K W T m f a sc (uf : Int))], .bool true]) ∧ Below w.heap.size w w' from ⟨h.1 cf uf rfl, h.2.2⟩))
    have HA2 := Lib.hid ((facesA_some (k := j) (L := L) hr).symm.trans HAc.out)
    have HB2 := Lib.hid (streamB_takeX (c := (uf : Int)) HBc.out)
    clear hr HFs
    obtain ⟨x, hx⟩ : ∃ x, takeX K W T m f a sc (uf : Int) = x := ⟨_, rfl⟩
    rw [hx] at HFn HA2 HB2
    clear hx
    go_wp2_with fail
    refine (HFn.out _).mono ?_
    rintro e w2 ⟨rfl, b2⟩
    clear x0 x1 x2 x3 x4 x5 x6
    obtain ⟨w4, hw4⟩ : ∃ w4, w4 = w2.alloc (.cells #[.int .i64 K, .int .i64 W, .int .i64 T, .int .i64 m, .int .i64 f, .int .i64 a, .int .i64 x] 29) := ⟨_, rfl⟩
    have bz : Below w2.heap.size w2 w4 := by rw [hw4]; exact (Below.refl _ _).alloc (Nat.le_refl _) _
    have U0 : SBox w4 w2.heap.size K W T m f a x := by rw [hw4]; exact SBox.new _ _ _ _ _ _ _ _
    have bo := Base.Below.nextA b2 bz
    have ba : Below w4.heap.size w4 (w4.alloc (.cells #[.int .i64 (cf : Int)] 2)).drew := ((Below.refl _ _).alloc (Nat.le_refl _) _).drew
    have b4 := Base.Below.nextA bo ba
    have hown := ownsRow_below HO.out (Base.Below.nextA bo ((Below.refl w4.heap.size w4).alloc (Nat.le_refl _) (.cells #[.int .i64 (cf : Int)] 2)))
    have HWn := Lib.hid hown
    have HU := Lib.hid (U0.below ba U0.lt)
    have HB4 := Lib.hid b4
    have HW4 := Lib.hid hw4
    have hlz2 : w1.heap.size < w4.heap.size := by have := b2.size; have := U0.lt; omega
    have hlz4 : w2.heap.size < w4.heap.size := U0.lt
    have x0 := U0.c0
    have x1 := U0.c1
    have x2 := U0.c2
    have x3 := U0.c3
    have x4 := U0.c4
    have x5 := U0.c5
    have x6 := U0.c6
    clear b2 bz ba b4 bo hown U0 hw4
    go_wp2_with fail
    rw [← HW4.out]
    go_region_law ((refine step_append_lies _ (by rfl) _ _ _ (by rfl) w1.heap.size 2 i0 _ 1 8 Tryz.underlying43 hi hz0 hz1 hz2 rfl (by omega) u9 L.length _ (by rfl) ((HWn.out).drew) ⟨w4.heap.size, 0, none⟩ 1 1 [.int .i64 (cf : Int)] (by rfl) (by rfl) (World.news_of_block (cs := #[.int .i64 (cf : Int)]) (t := 2) (fr := (0, 0)) (heap_alloc_new w4 _)) one_int (by omega) (by simp only [maxLen]; omega) (by omega) (by first | omega | (simp; omega)) (w4.heap.size + 1) (by simp) ?_; intro gg cap w5 hown' hg' hat hlt2; have HN := Lib.hid (faces_next (c := (cf : Int)) (s2 := x) HO.out HX.out HZb.out (by omega) (by omega) (by omega) HBl.out HB4.out hown' hg'); have hsz5 : w1.heap.size ≤ (set7 w5 w.heap.size K W T m f a x).heap.size := Nat.le_trans (Nat.le_trans (Nat.le_of_lt hlz2) (Nat.le_trans (by simp) hg'.size)) (grown_set7 w5 w.heap.size K W T m f a x).size; have HSZ5 := Lib.hid hsz5; clear hsz5; have q := HN.out.2.2.2.2.1; have qn := HU.out.kept hg' (own_not_str (HWn.out).drew HU.out); have y0 := (q).c0; have y1 := (q).c1; have y2 := (q).c2; have y3 := (q).c3; have y4 := (q).c4; have y5 := (q).c5; have y6 := (q).c6; have z0 := (q).frz 0; have z1 := (q).frz 1; have z2 := (q).frz 2; have z3 := (q).frz 3; have z4 := (q).frz 4; have z5 := (q).frz 5; have z6 := (q).frz 6; have v0 := (qn).c0; have v1 := (qn).c1; have v2 := (qn).c2; have v3 := (qn).c3; have v4 := (qn).c4; have v5 := (qn).c5; have v6 := (qn).c6; clear hown' hg' hat q qn))
    all_goals
     go_wp2
     go_roundw
     case rel => exact ⟨i + 1, j, L ++ [(cf : Int)], x, by go_num, by omega, by simp; omega, HSZ5.out, Lib.hid HN.out.1, Lib.hid HN.out.2.1, Lib.hid HN.out.2.2.1, HB2, HA2, Lib.hid HN.out.2.2.2.1⟩
     case measure => simp [intOf]; omega
  ·obtain rfl : k = 0 := by omega
   obtain rfl : i = c := by omega
   obtain ⟨A, cp, eA, _⟩ := HO.out.form
   subst eA
   have HAe := Lib.hid (show RR = some (L, sc) from by rw [← HAc.out]; rfl)
   have x0 := (HX.out).c0; have x1 := (HX.out).c1; have x2 := (HX.out).c2; have x3 := (HX.out).c3; have x4 := (HX.out).c4; have x5 := (HX.out).c5; have x6 := (HX.out).c6
   have h0 := (HZb.out).c0; have h1 := (HZb.out).c1; have h2 := (HZb.out).c2; have h3 := (HZb.out).c3; have h4 := (HZb.out).c4; have h5 := (HZb.out).c5; have h6 := (HZb.out).c6
   have g0 := (HZb.out).frz 0; have g1 := (HZb.out).frz 1; have g2 := (HZb.out).frz 2; have g3 := (HZb.out).frz 3; have g4 := (HZb.out).frz 4; have g5 := (HZb.out).frz 5; have g6 := (HZb.out).frz 6
   have S8 := HZb.out.set7 K W T m f a sc
   have p0 := (S8).c0; have p1 := (S8).c1; have p2 := (S8).c2; have p3 := (S8).c3; have p4 := (S8).c4; have p5 := (S8).c5; have p6 := (S8).c6
   simp only [set7] at p0 p1 p2 p3 p4 p5 p6
   have B7 := Lib.hid (HBl.out.trans (grown_below (grown_set7 wr (w.heap.size + 1) K W T m f a sc) (fun g e => by cases e; exact Nat.le_succ _) HBl.out.size))
   have O7 := Lib.hid (own_set7 HO.out HZb.out K W T m f a sc)
   have mixed : Tryz.prog.follows .mixedOrders = true := by kernel_rfl
   clear S8
   go_wp2_with fail
   go_region_o
   all_goals
    go_wp2
    refine bodyPost_ret (v := .tuple #[.slice A L.length cp, .agg #[.int .i64 K, .int .i64 W, .int .i64 T, .int .i64 m, .int .i64 f, .int .i64 a, .int .i64 sc], .bool true]) (by simp [results, Tryz.results13, go_sem, p0, p1, p2, p3, p4, p5, p6]) rfl (FsRet.yes HAe.out rfl ?_ (Below.drew B7.out))
    exact ownsRow_base (ownsRow_below O7.out ((Below.refl _ _).drew)) (by omega)
end Go.Proofs.YtgipnbeipfhekaaGreatDoor.Face
namespace Go.Proofs.YtgipnbeipfhekaaGreatDoor.Shift
open Go.RowKit Go.Proofs.YtgipnbeipfhekaaGreatDoor Go.Proofs.YtgipnbeipfhekaaGreatDoor.Base Go.Proofs.YtgipnbeipfhekaaGreatDoor.Mem Go.Proofs.YtgipnbeipfhekaaGreatDoor.AllIn Go.Proofs.YtgipnbeipfhekaaGreatDoor.Pts Go.Proofs.YtgipnbeipfhekaaGreatDoor.RevNet Go.Proofs.YtgipnbeipfhekaaGreatDoor.Bits
set_option linter.unusedVariables false
theorem row_at {L b d : Nat} {xss : List (List Int)} (h : xss.all (rowB L b) = true) (hd : d < xss.length) : (xss.getD d []).length = L ∧ ∀ j, j < L → 0 ≤ (xss.getD d []).getD j 0 ∧ (xss.getD d []).getD j 0 ≤ (2 : Int) ^ b - 1 := by
 have h1 := all_at [] hd h
 simp only [rowB, Bool.and_eq_true, beq_iff_eq] at h1
 exact ⟨h1.1, fun j hj => AllIn.allInB_true h1.2 j (by omega)⟩
end Go.Proofs.YtgipnbeipfhekaaGreatDoor.Shift
namespace Go.Proofs.YtgipnbeipfhekaaGreatDoor.Shuf
open Go.RowKit Go.Proofs.YtgipnbeipfhekaaGreatDoor Go.Proofs.YtgipnbeipfhekaaGreatDoor.Base Go.Proofs.YtgipnbeipfhekaaGreatDoor.Mem Go.Proofs.YtgipnbeipfhekaaGreatDoor.AllIn Go.Proofs.YtgipnbeipfhekaaGreatDoor.RevNet Go.Proofs.YtgipnbeipfhekaaGreatDoor.Shift
set_option linter.unusedVariables false
def ascL (n : Nat) : List Int := (List.range n).map fun (i : Nat) => ((i : Nat) : Int)
def swapL (l : List Int) (i c : Nat) : List Int := (l.set i (l.getD c 0)).set c (l.getD i 0)
def shufTo (n : Nat) (ch : List Int) : Nat → List Int
 | 0 => ascL n
 | j + 1 => swapL (shufTo n ch j) (n - 1 - j) (ch.getD j 0).toNat
def ShRel (n : Nat) (ch : List Int) (g c0 : Nat) (w : World) (j : Nat) (wr : World) : Prop := OwnI wr w.heap.size (.slice (some ⟨g, 0, none⟩) n c0) (shufTo n ch j) ∧ Below w.heap.size w wr
end Go.Proofs.YtgipnbeipfhekaaGreatDoor.Shuf
namespace Go.Proofs.YtgipnbeipfhekaaGreatDoor.Face
open Go.RowKit Go.Proofs.YtgipnbeipfhekaaGreatDoor Go.Proofs.YtgipnbeipfhekaaGreatDoor.Base Go.Proofs.YtgipnbeipfhekaaGreatDoor.Mem Go.Proofs.YtgipnbeipfhekaaGreatDoor.Reg Go.Proofs.YtgipnbeipfhekaaGreatDoor.Str Go.Proofs.YtgipnbeipfhekaaGreatDoor.Take Go.Proofs.YtgipnbeipfhekaaGreatDoor.Skip Go.Proofs.YtgipnbeipfhekaaGreatDoor.Dice Go.Proofs.YtgipnbeipfhekaaGreatDoor.Shuf
set_option linter.unusedVariables false
def ordA (K W T m f a : Int) : Nat → Int → List Int → Option (List Int × Int)
 | 0, s, L => some (L, s)
 | k + 1, s, L => match faceR K W T m f a s (k + 2) (by omega) with
  | none => none
  | some (c, u) => ordA K W T m f a k (takeX K W T m f a s (u : Int)) (L ++ [(c : Int)])
def ordOf (n : Nat) (R : Option (List Int × Int)) : Option (List Int × Int) := R.map fun p => (shufTo n p.1 p.1.length, p.2)
def ordR (K W T m f a s n : Int) : Option (List Int × Int) := if (streamB K W T m f a s && inR n 1 12) = true then ordOf n.toNat (ordA K W T m f a (n.toNat - 1) s []) else none
end Go.Proofs.YtgipnbeipfhekaaGreatDoor.Face

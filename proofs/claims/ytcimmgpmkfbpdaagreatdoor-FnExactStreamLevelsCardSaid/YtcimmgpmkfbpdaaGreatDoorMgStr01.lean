/- The reference's register: validity, a step, the cycle of states. -/
import Derived.Test.YtcimmgpmkfbpdaaGreatDoorMgStr00
import Derived.Maps.AppendAt
import Derived.Deep.RegionHeld3
import Derived.Test.YtcimmgpmkfbpdaaGreatDoorRows
import Derived.Deep.Matrix
import Derived.ProofKit
import Derived.OpenShut
import Derived.Lib.SmallJoins
import Derived.Deep.RegionWith
import Derived.Deep.AppendLies
namespace Go.Proofs.YtcimmgpmkfbpdaaGreatDoor.Reg
open Go.RowKit Go.Proofs.YtcimmgpmkfbpdaaGreatDoor Go.Proofs.YtcimmgpmkfbpdaaGreatDoor.Base Go.Proofs.YtcimmgpmkfbpdaaGreatDoor.Bits
set_option linter.unusedVariables false
theorem pw_bd {W : Nat} (h : W ≤ 16) : 1 ≤ (2 : Int) ^ W ∧ (2 : Int) ^ W ≤ 65536 := by
 have h1 : 2 ^ W ≤ 2 ^ 16 := Nat.pow_le_pow_right (by decide) h
 have h2 : 0 < 2 ^ W := Nat.two_pow_pos W
 have e : ((2 ^ W : Nat) : Int) = (2 : Int) ^ W := by simp
 rw [← e]; omega
def stB (W : Nat) (x : Int) : Bool := inR x 0 ((2 : Int) ^ W - 1)
def regB (W T : Int) : Bool := inR W 0 16 && stB W.toNat T
theorem regB_true {W T : Int} (h : regB W T = true) : 0 ≤ W ∧ W ≤ 16 ∧ 0 ≤ T ∧ T < (2 : Int) ^ W.toNat := by
 simp only [regB, Bool.and_eq_true, stB] at h
 have h1 := inR_true h.1
 have h2 := inR_true h.2
 omega
theorem l02State_any (W : Nat) (x : Int) (hn : W ≤ 16) (w : World) :
  Calls Tryz.prog 48 #[.int .i64 W, .int .i64 x] w fun e w' => e = .returned (.bool (stB W x)) ∧ w = w' := by
 obtain ⟨p1, p2⟩ := pw_bd hn
 go_enter Tryz.func48, Tryz.ntmps48
 go_wp2_with (go_at_call 23; refine (l00In_any _ _ _ _).mono ?_; rintro e w' ⟨rfl, rfl⟩)
 go_ret
 exact ⟨rfl, rfl⟩
theorem l02State_qb {W : Nat} {x : Int} {r : Bool} (h : stB W x = r) (hn : W ≤ 16) (w : World) :
  Calls Tryz.prog 48 #[.int .i64 W, .int .i64 x] w fun e w' => e = .returned (.bool r) ∧ w' = w := by
 subst h; exact (l02State_any W x hn w).mono fun _ _ h => ⟨h.1, h.2.symm⟩
theorem l02Is_any (b o : Nat) (W T : Int) (w : World) (h0 : w.cell? ⟨b, o, none⟩ = some (.int .i64 W)) (h1 : w.cell? ⟨b, o + 1, none⟩ = some (.int .i64 T)) :
  Calls Tryz.prog 47 #[.pointer (some ⟨b, o, none⟩)] w fun e w' => e = .returned (.bool (regB W T)) ∧ ∃ n, w' = w.drewN n := by
 cases hm : inR W 0 16
 ·go_enter Tryz.func47, Tryz.ntmps47
  go_wp2
  go_quiet ((go_at_call 23; exact Calls.quiet_of_same (l00In_qb hm _)))
  go_wp2
  go_ret
  exact ⟨ret_bool (by simp [regB, hm]), _, rfl⟩
 ·obtain ⟨b1, b2⟩ := inR_true hm
  obtain ⟨V, rfl⟩ := Int.eq_ofNat_of_zero_le b1
  cases hf : stB V T
  all_goals
   go_enter Tryz.func47, Tryz.ntmps47
   go_wp2
   go_quiet ((first | (go_at_call 23; exact Calls.quiet_of_same (l00In_qb hm _)) | (go_at_call 48; exact Calls.quiet_of_same (l02State_qb hf (by omega) _))))
   go_wp2
   go_ret
   exact ⟨ret_bool (by simp [regB, hm, hf]), _, rfl⟩
def bothR (W T x : Int) : Bool := regB W T && stB W.toNat x
theorem bothR_true {W T x : Int} (h : bothR W T x = true) : 0 ≤ W ∧ W ≤ 16 ∧ 0 ≤ T ∧ T < (2 : Int) ^ W.toNat ∧ 0 ≤ x ∧ x < (2 : Int) ^ W.toNat := by
 simp only [bothR, Bool.and_eq_true, stB] at h
 have h1 := regB_true h.1
 have h2 := inR_true h.2
 omega
theorem l02Both_any (b o : Nat) (W T x : Int) (w : World) (h0 : w.cell? ⟨b, o, none⟩ = some (.int .i64 W)) (h1 : w.cell? ⟨b, o + 1, none⟩ = some (.int .i64 T)) :
  Calls Tryz.prog 21 #[.pointer (some ⟨b, o, none⟩), .int .i64 x] w fun e w' => e = .returned (.bool (bothR W T x)) ∧ ∃ n, w' = w.drewN n := by
 cases hB : regB W T
 ·go_enter Tryz.func21, Tryz.ntmps21
  go_wp2_with (go_at_call 47; refine (l02Is_any _ _ W T _ h0 h1).mono ?_; rintro e w1 ⟨rfl, k, rfl⟩)
  go_ret
  exact ⟨ret_bool (by simp [bothR, hB]), _, rfl⟩
 ·obtain ⟨g1, g2, _⟩ := regB_true hB
  obtain ⟨V, rfl⟩ := Int.eq_ofNat_of_zero_le g1
  go_enter Tryz.func21, Tryz.ntmps21
  go_wp2_with (first | (go_at_call 47; refine (l02Is_any _ _ (V : Int) T _ h0 h1).mono ?_; rintro e w1 ⟨rfl, k, rfl⟩) | (go_at_call 48; refine (l02State_any V _ (by omega) _).mono ?_; rintro e w' ⟨rfl, rfl⟩))
  go_ret
  exact ⟨ret_bool (by simp [bothR, hB]), _, rfl⟩
def nextR (W T x : Nat) : Nat := if W = 0 then 0 else x / 2 ||| PopM.par (x &&& T) * 2 ^ (W - 1)
theorem nextR_lt {W T x : Nat} (hx : x < 2 ^ W) : nextR W T x < 2 ^ W := by
 unfold nextR
 by_cases h : W = 0
 ·rw [if_pos h]; exact Nat.two_pow_pos W
 ·rw [if_neg h]
  obtain ⟨V, rfl⟩ : ∃ V, W = V + 1 := ⟨W - 1, by omega⟩
  have hp := PopM.par_lt (x &&& T)
  rw [Nat.pow_succ] at hx
  have h1 : PopM.par (x &&& T) * 2 ^ (V + 1 - 1) < 2 ^ (V + 1) := by
   rw [Nat.add_sub_cancel, Nat.pow_succ]
   have : PopM.par (x &&& T) * 2 ^ V ≤ 1 * 2 ^ V := Nat.mul_le_mul_right _ (by omega)
   have := Nat.two_pow_pos V
   omega
  exact Nat.or_lt_two_pow (by rw [Nat.pow_succ]; omega) h1
theorem nextR_int {W T x : Nat} (hW : 1 ≤ W) (hW2 : W ≤ 16) (hx : x < 2 ^ W) : bits .or .i64 ((x : Int) / 2) (wrap64 ((PopM.par (x &&& T) : Int) * (2 : Int) ^ (W - 1))) = ((nextR W T x : Nat) : Int) := by
 have hp := PopM.par_lt (x &&& T)
 have hW3 : 2 ^ W ≤ 65536 := Nat.pow_le_pow_right (by decide) hW2
 have h1 : 2 ^ (W - 1) ≤ 65536 := Nat.le_trans (Nat.pow_le_pow_right (by decide) (by omega)) hW3
 have h2 : PopM.par (x &&& T) * 2 ^ (W - 1) ≤ 1 * 65536 := Nat.mul_le_mul (by omega) h1
 have e : (PopM.par (x &&& T) : Int) * (2 : Int) ^ (W - 1) = ((PopM.par (x &&& T) * 2 ^ (W - 1) : Nat) : Int) := by simp
 have e2 : wrap64 (((PopM.par (x &&& T) * 2 ^ (W - 1) : Nat) : Int)) = ((PopM.par (x &&& T) * 2 ^ (W - 1) : Nat) : Int) := by simp only [wrap64]; omega
 rw [e, e2, show ((x : Int) / 2) = ((x / 2 : Nat) : Int) by omega, i64_or_nat _ _ (by omega) (by omega)]
 unfold nextR
 rw [if_neg (by omega)]
theorem ret_two {k : IntKind} {a b c d : Int} (h : a = b) (h' : c = d) : Ending.returned (.tuple #[.int k a, .int k c]) = .returned (.tuple #[.int k b, .int k d]) := by rw [h, h']
theorem l02Step_pos (b o W T x : Nat) (w : World) (h0 : w.cell? ⟨b, o, none⟩ = some (.int .i64 W)) (h1 : w.cell? ⟨b, o + 1, none⟩ = some (.int .i64 T)) (hW : 1 ≤ W) (hW2 : W ≤ 16) (hT : T < 2 ^ W) (hx : x < 2 ^ W) :
  Calls Tryz.prog 50 #[.pointer (some ⟨b, o, none⟩), .int .i64 x] w fun e w' => e = .returned (.tuple #[.int .i64 (nextR W T x : Nat), .int .i64 (x % 2 : Nat)]) ∧ ∃ n, w' = w.drewN n := by
 have hp : 2 ^ W ≤ 65536 := Nat.pow_le_pow_right (by decide) hW2
 have HA := Lib.hid (i64_and_nat x T (by omega) (by omega))
 have HB := Lib.hid (nextR_int (T := T) hW hW2 hx)
 have HC := Lib.hid (and1 x (by omega))
 have hand : x &&& T ≤ x := Nat.and_le_left
 have hW0 : ((W : Int) == 0) = false := by simp; omega
 go_enter Tryz.func50, Tryz.ntmps50
 go_wp2
 go_quiet ((go_at_call 78; rw [HA.out]; exact Calls.quiet_of_same (l02Parity_q (x &&& T) (by omega) _)))
 go_wp2
 go_ret2
 exact ⟨ret_two HB.out HC.out, _, rfl⟩
def StepRet (W T x : Nat) (w : World) (e : Ending) (w' : World) : Prop := e = .returned (.tuple #[.int .i64 (nextR W T x : Nat), .int .i64 (x % 2 : Nat)]) ∧ ∃ n, w' = w.drewN n
theorem l02Step_any (b o W T x : Nat) (w : World) (h0 : w.cell? ⟨b, o, none⟩ = some (.int .i64 W)) (h1 : w.cell? ⟨b, o + 1, none⟩ = some (.int .i64 T)) (hW2 : W ≤ 16) (hT : T < 2 ^ W) (hx : x < 2 ^ W) :
  Calls Tryz.prog 50 #[.pointer (some ⟨b, o, none⟩), .int .i64 x] w (StepRet W T x w) := by
 by_cases hW : W = 0
 ·subst hW
  obtain rfl : x = 0 := by simpa using hx
  go_enter Tryz.func50, Tryz.ntmps50
  go_wp2
  go_ret2
  exact ⟨rfl, 0, rfl⟩
 ·exact l02Step_pos b o W T x w h0 h1 (by omega) hW2 hT hx
end Go.Proofs.YtcimmgpmkfbpdaaGreatDoor.Reg
namespace Go.Proofs.YtcimmgpmkfbpdaaGreatDoor.Pts
open Go.RowKit Go.Proofs.YtcimmgpmkfbpdaaGreatDoor Go.Proofs.YtcimmgpmkfbpdaaGreatDoor.Base Go.Proofs.YtcimmgpmkfbpdaaGreatDoor.Mem Go.Proofs.YtcimmgpmkfbpdaaGreatDoor.AllIn
set_option linter.unusedVariables false
end Go.Proofs.YtcimmgpmkfbpdaaGreatDoor.Pts
namespace Go.Proofs.YtcimmgpmkfbpdaaGreatDoor.RevNet
open Go.RowKit Go.Proofs.YtcimmgpmkfbpdaaGreatDoor Go.Proofs.YtcimmgpmkfbpdaaGreatDoor.Base Go.Proofs.YtcimmgpmkfbpdaaGreatDoor.Mem Go.Proofs.YtcimmgpmkfbpdaaGreatDoor.Pts
set_option linter.unusedVariables false
end Go.Proofs.YtcimmgpmkfbpdaaGreatDoor.RevNet
namespace Go.Proofs.YtcimmgpmkfbpdaaGreatDoor.NetV
open Go.RowKit Go.Proofs.YtcimmgpmkfbpdaaGreatDoor Go.Proofs.YtcimmgpmkfbpdaaGreatDoor.Base Go.Proofs.YtcimmgpmkfbpdaaGreatDoor.Mem Go.Proofs.YtcimmgpmkfbpdaaGreatDoor.AllIn Go.Proofs.YtcimmgpmkfbpdaaGreatDoor.Pts
set_option linter.unusedVariables false
end Go.Proofs.YtcimmgpmkfbpdaaGreatDoor.NetV
namespace Go.Proofs.YtcimmgpmkfbpdaaGreatDoor.Cpy
open Go.RowKit Go.Proofs.YtcimmgpmkfbpdaaGreatDoor Go.Proofs.YtcimmgpmkfbpdaaGreatDoor.Base Go.Proofs.YtcimmgpmkfbpdaaGreatDoor.Mem
set_option linter.unusedVariables false
theorem us_set {us : List Value} {j n : Nat} (hj : us.length = j) (hn : j < n) (u z : Value) : (us ++ List.replicate (n - j) z).set j u = (us ++ [u]) ++ List.replicate (n - (j + 1)) z := by
 rw [List.set_append_right _ _ (Nat.le_of_eq hj), hj, Nat.sub_self, show n - j = (n - (j + 1)) + 1 by omega, List.replicate_succ, List.set_cons_zero, List.append_assoc]
 rfl
theorem us_get {us : List Value} {j n : Nat} (hj : us.length = j) (hn : j < n) (z : Value) : (us ++ List.replicate (n - j) z)[j]? = some z := by
 rw [List.getElem?_append_right (Nat.le_of_eq hj), hj, Nat.sub_self, List.getElem?_replicate, if_pos (by omega)]
end Go.Proofs.YtcimmgpmkfbpdaaGreatDoor.Cpy
namespace Go.Proofs.YtcimmgpmkfbpdaaGreatDoor.Open
open Go.ChangeShapes Go.WideShapes Go.ChangeAt Go.RowKit Go.Joins Go.Proofs.YtcimmgpmkfbpdaaGreatDoor
set_option linter.unusedVariables false
set_option maxRecDepth 100000
section
variable {H : Type} {enc : TypeId × Value → H} {w : World} {base b0 : Nat} {spare : Nat → Bool} {held : Bool} {v : Value} {d : DataW H} {p : List MemPlace}
theorem field_int {n : Nat} {fs : Array Field} {cs : List Value} {xs : List (DataW H × List MemPlace)} (hlen : xs.length = fs.size)
  (hg : ∀ (i : Nat) (f : Field), fs[i]? = some f → DataW.trod enc Tryz.prog w base spare held n f.type ((cs.drop f.offset).take (Tryz.prog.cellsOf f.type)) = xs[i]?)
  (i : Nat) (f : Field) (hf : fs[i]? = some f) (ht : f.type = 2) : ∃ a : Int, (cs.drop f.offset).take (Tryz.prog.cellsOf f.type) = [.int .i64 a] := by
 have h := hg i f hf
 have hi : i < xs.length := by rw [hlen]; exact (Array.getElem?_eq_some_iff.1 hf).1
 rw [List.getElem?_eq_getElem hi, ht] at h
 obtain ⟨a, e, _, _⟩ := DataW.trod_int Tryz.underlying2 h
 exact ⟨a, by rw [ht]; exact e⟩
theorem cells64 : Tryz.prog.cellsOf 2 = 1 := by kernel_rfl
theorem cellsReg' : Tryz.prog.cellsOf 23 = 2 := by kernel_rfl
theorem cellsCong' : Tryz.prog.cellsOf 25 = 3 := by kernel_rfl
theorem cellsStream : Tryz.prog.cellsOf 27 = 7 := by kernel_rfl
theorem reg_cells {n : Nat} {cs : List Value} {x : DataW H × List MemPlace} (h : DataW.trod enc Tryz.prog w base spare held n 23 cs = some x) : ∃ a b : Int, cs = [.int .i64 a, .int .i64 b] := by
 obtain ⟨xs, n', _, _, hl, hlen, hg⟩ := DataW.trod_struct Tryz.underlying23 h
 obtain ⟨a, e0⟩ := field_int hlen hg 0 _ rfl rfl
 obtain ⟨b, e1⟩ := field_int hlen hg 1 _ rfl rfl
 rw [cellsReg'] at hl
 match cs, hl with
 | [c0, c1], _ =>
  simp [cells64] at e0 e1
  exact ⟨a, b, by rw [e0, e1]⟩
theorem cong_cells {n : Nat} {cs : List Value} {x : DataW H × List MemPlace} (h : DataW.trod enc Tryz.prog w base spare held n 25 cs = some x) : ∃ a b c : Int, cs = [.int .i64 a, .int .i64 b, .int .i64 c] := by
 obtain ⟨xs, n', _, _, hl, hlen, hg⟩ := DataW.trod_struct Tryz.underlying25 h
 obtain ⟨a, e0⟩ := field_int hlen hg 0 _ rfl rfl
 obtain ⟨b, e1⟩ := field_int hlen hg 1 _ rfl rfl
 obtain ⟨c, e2⟩ := field_int hlen hg 2 _ rfl rfl
 rw [cellsCong'] at hl
 match cs, hl with
 | [c0, c1, c2], _ =>
  simp [cells64] at e0 e1 e2
  exact ⟨a, b, c, by rw [e0, e1, e2]⟩
theorem stream_cells {n : Nat} {cs : List Value} {x : DataW H × List MemPlace} (h : DataW.trod enc Tryz.prog w base spare held n 27 cs = some x) :
  ∃ K W T m f a s : Int, cs = [.int .i64 K, .int .i64 W, .int .i64 T, .int .i64 m, .int .i64 f, .int .i64 a, .int .i64 s] := by
 obtain ⟨xs, n', _, _, hl, hlen, hg⟩ := DataW.trod_struct Tryz.underlying27 h
 obtain ⟨K, e0⟩ := field_int hlen hg 0 _ rfl rfl
 obtain ⟨s, e3⟩ := field_int hlen hg 3 _ rfl rfl
 have h1 := hg 1 _ rfl
 have h2 := hg 2 _ rfl
 rw [cellsStream] at hl
 have l1 : 1 < xs.length := by rw [hlen]; decide
 have l2 : 2 < xs.length := by rw [hlen]; decide
 rw [List.getElem?_eq_getElem l1] at h1
 rw [List.getElem?_eq_getElem l2] at h2
 obtain ⟨W, T, e1⟩ := reg_cells h1
 obtain ⟨m, f, a, e2⟩ := cong_cells h2
 match cs, hl with
 | [c0, c1, c2, c3, c4, c5, c6], _ =>
  simp [cells64, cellsReg', cellsCong'] at e0 e1 e2 e3
  obtain ⟨e1a, e1b⟩ := e1
  obtain ⟨e2a, e2b, e2c⟩ := e2
  exact ⟨K, W, T, m, f, a, s, by rw [e0, e1a, e1b, e2a, e2b, e2c, e3]⟩
structure IsStream (v : Value) : Prop where
 ex : ∃ K W T m f a s : Int, v = .agg #[.int .i64 K, .int .i64 W, .int .i64 T, .int .i64 m, .int .i64 f, .int .i64 a, .int .i64 s]
theorem stream (hv : Value.okWide Tryz.prog w .any b0 27 v) (h : DataW.Trod enc Tryz.prog w base spare held 27 v d p) : IsStream v := by
 obtain ⟨⟨cs⟩, rfl, hsz⟩ := okWide_struct Tryz.underlying27 hv
 obtain ⟨fuel, hf⟩ := h
 obtain ⟨K, W, T, m, f, a, s, e⟩ := stream_cells (cs := cs) (by simpa [Value.cells] using hf)
 exact ⟨K, W, T, m, f, a, s, by rw [e]⟩
theorem addr_add {a : Addr} (h : a.spot = none) (i : Nat) : a.add i = ⟨a.block, a.off + i, none⟩ := by
 obtain ⟨b, off, spot⟩ := a
 simp at h; subst h
 unfold Addr.add
 split <;> simp_all
theorem spot_of {a : Addr} {u : Value} (h : w.cell? (a.add 0) = some u) : a.spot = none ∧ a.block < w.heap.size := by
 have e : a.add 0 = a := by simp [Addr.add]
 rw [e] at h
 exact ⟨World.cell?_spot h, block_lt_of_cell h⟩
theorem cells8 : Tryz.prog.cellsOf 5 = 1 := by kernel_rfl
structure IsBytes (w : World) (v : Value) : Prop where
 ex : ∃ (A : Option Addr) (c : Nat) (zs : List Int), v = .slice A zs.length c ∧ zs.length ≤ 9223372036854775807 ∧ (∀ z ∈ zs, 0 ≤ z ∧ z ≤ 255) ∧ Mem.RdB w w.heap.size A zs
theorem bytes (hv : Value.okWide Tryz.prog w .any b0 58 v) (h : DataW.Trod enc Tryz.prog w base (fun _ => true) held 58 v d p) : IsBytes w v := by
 obtain ⟨a, len, cap, rfl⟩ := okWide_slice Tryz.underlying58 hv
 obtain ⟨fuel, hf⟩ := h
 rcases open_ints Tryz.underlying58 Tryz.underlying5 cells8 hf with ⟨hcs, _⟩ | ⟨x, l, c, zs, hcs, _, hl, hm, hz, _, hcell, hwz⟩
 ·simp [Value.cells] at hcs
  obtain ⟨rfl, rfl, rfl⟩ := hcs
  exact ⟨none, 0, [], rfl, by decide, by simp, fun h => absurd h (by simp)⟩
 ·simp [Value.cells] at hcs
  obtain ⟨rfl, rfl, rfl⟩ := hcs
  simp only [if_true] at hz
  have hlen : (zs.take len).length = len := by rw [List.length_take]; omega
  refine ⟨some x, cap, zs.take len, by rw [hlen], ?_, fun z hzm => ?_, fun h0 => ?_⟩
  ·rw [hlen]; unfold maxLen at hm; omega
  ·have := hwz z (List.mem_of_mem_take hzm)
   simp [Lit.wf, IntKind.min, IntKind.max, IntKind.signed, IntKind.bits] at this
   omega
  ·rw [hlen] at h0
   obtain ⟨hs, hb⟩ := spot_of (hcell 0 (by omega))
   refine ⟨x.block, x.off, by cases x; simp_all, hb, fun i hi => ?_⟩
   rw [hlen] at hi
   rw [← addr_add hs, hcell i (by omega)]
   simp [List.getD, hi]
theorem cellsI1 : Tryz.prog.cellsOf 2 = 1 := by kernel_rfl
structure IsInts (w : World) (v : Value) : Prop where
 ex : ∃ (A : Option Addr) (c : Nat) (zs : List Int), v = .slice A zs.length c ∧ zs.length ≤ 9223372036854775807 ∧ (∀ z ∈ zs, -9223372036854775808 ≤ z ∧ z ≤ 9223372036854775807) ∧ Mem.RdI w w.heap.size A zs
theorem ints (hv : Value.okWide Tryz.prog w .any b0 63 v) (h : DataW.Trod enc Tryz.prog w base (fun _ => true) held 63 v d p) : IsInts w v := by
 obtain ⟨a, len, cap, rfl⟩ := okWide_slice Tryz.underlying63 hv
 obtain ⟨fuel, hf⟩ := h
 rcases open_ints Tryz.underlying63 Tryz.underlying2 cellsI1 hf with ⟨hcs, _⟩ | ⟨x, l, c, zs, hcs, _, hl, hm, hz, _, hcell, hwz⟩
 ·simp [Value.cells] at hcs
  obtain ⟨rfl, rfl, rfl⟩ := hcs
  exact ⟨none, 0, [], rfl, by decide, by simp, fun h => absurd h (by simp)⟩
 ·simp [Value.cells] at hcs
  obtain ⟨rfl, rfl, rfl⟩ := hcs
  simp only [if_true] at hz
  have hlen : (zs.take len).length = len := by rw [List.length_take]; omega
  refine ⟨some x, cap, zs.take len, by rw [hlen], ?_, fun z hzm => ?_, fun h0 => ?_⟩
  ·rw [hlen]; unfold maxLen at hm; omega
  ·have := hwz z (List.mem_of_mem_take hzm)
   simp [Lit.wf, IntKind.min, IntKind.max, IntKind.signed, IntKind.bits] at this
   omega
  ·rw [hlen] at h0
   obtain ⟨hs, hb⟩ := spot_of (hcell 0 (by omega))
   refine ⟨x.block, x.off, by cases x; simp_all, hb, fun i hi => ?_⟩
   rw [hlen] at hi
   rw [← addr_add hs, hcell i (by omega)]
   simp [List.getD, hi]
end
end Go.Proofs.YtcimmgpmkfbpdaaGreatDoor.Open
namespace Go.Proofs.YtcimmgpmkfbpdaaGreatDoor.NetV
open Go.RowKit Go.Proofs.YtcimmgpmkfbpdaaGreatDoor Go.Proofs.YtcimmgpmkfbpdaaGreatDoor.Base Go.Proofs.YtcimmgpmkfbpdaaGreatDoor.Mem Go.Proofs.YtcimmgpmkfbpdaaGreatDoor.Cpy
set_option linter.unusedVariables false
end Go.Proofs.YtcimmgpmkfbpdaaGreatDoor.NetV
namespace Go.Proofs.YtcimmgpmkfbpdaaGreatDoor.RevNet
open Go.RowKit Go.Proofs.YtcimmgpmkfbpdaaGreatDoor Go.Proofs.YtcimmgpmkfbpdaaGreatDoor.Base Go.Proofs.YtcimmgpmkfbpdaaGreatDoor.Mem Go.Proofs.YtcimmgpmkfbpdaaGreatDoor.Pts Go.Proofs.YtcimmgpmkfbpdaaGreatDoor.NetV
set_option linter.unusedVariables false
theorem block_lt {w : World} {g : Nat} {o : Obj} (h : w.heap[g]? = some o) : g < w.heap.size := by
 rcases Nat.lt_or_ge g w.heap.size with hlt | hge
 ·exact hlt
 ·rw [Array.getElem?_eq_none hge] at h; cases h
end Go.Proofs.YtcimmgpmkfbpdaaGreatDoor.RevNet
namespace Go.Proofs.YtcimmgpmkfbpdaaGreatDoor.Shift
open Go.RowKit Go.Proofs.YtcimmgpmkfbpdaaGreatDoor Go.Proofs.YtcimmgpmkfbpdaaGreatDoor.Base Go.Proofs.YtcimmgpmkfbpdaaGreatDoor.Mem Go.Proofs.YtcimmgpmkfbpdaaGreatDoor.AllIn Go.Proofs.YtcimmgpmkfbpdaaGreatDoor.Pts Go.Proofs.YtcimmgpmkfbpdaaGreatDoor.RevNet Go.Proofs.YtcimmgpmkfbpdaaGreatDoor.Bits
set_option linter.unusedVariables false
end Go.Proofs.YtcimmgpmkfbpdaaGreatDoor.Shift
namespace Go.Proofs.YtcimmgpmkfbpdaaGreatDoor.Cuts
open Go.RowKit Go.Proofs.YtcimmgpmkfbpdaaGreatDoor Go.Proofs.YtcimmgpmkfbpdaaGreatDoor.Base Go.Proofs.YtcimmgpmkfbpdaaGreatDoor.Mem Go.Proofs.YtcimmgpmkfbpdaaGreatDoor.AllIn Go.Proofs.YtcimmgpmkfbpdaaGreatDoor.Pts Go.Proofs.YtcimmgpmkfbpdaaGreatDoor.RevNet Go.Proofs.YtcimmgpmkfbpdaaGreatDoor.Bits
set_option linter.unusedVariables false
end Go.Proofs.YtcimmgpmkfbpdaaGreatDoor.Cuts
namespace Go.Proofs.YtcimmgpmkfbpdaaGreatDoor.Inv
open Go.RowKit Go.Proofs.YtcimmgpmkfbpdaaGreatDoor Go.Proofs.YtcimmgpmkfbpdaaGreatDoor.Base Go.Proofs.YtcimmgpmkfbpdaaGreatDoor.Mem
set_option linter.unusedVariables false
end Go.Proofs.YtcimmgpmkfbpdaaGreatDoor.Inv
namespace Go.Proofs.YtcimmgpmkfbpdaaGreatDoor.NatM
set_option linter.unusedVariables false
def B32 : Nat := 4294967296
def val : List Nat → Nat
 | [] => 0
 | x :: xs => x + B32 * val xs
def okN (xs : List Nat) : Prop := ∀ x ∈ xs, x < B32
theorem val_append : ∀ (xs ys : List Nat), val (xs ++ ys) = val xs + B32 ^ xs.length * val ys
 | [], ys => by simp [val]
 | x :: xs, ys => by
  rw [List.cons_append, val, val, val_append xs ys, List.length_cons, Nat.pow_succ, Nat.mul_add, ← Nat.mul_assoc, Nat.mul_comm B32 (B32 ^ xs.length), Nat.add_assoc]
theorem val_lt : ∀ (xs : List Nat), okN xs → val xs < B32 ^ xs.length
 | [], _ => by simp [val]
 | x :: xs, h => by
  have h1 := val_lt xs fun y hy => h y (by simp [hy])
  have h2 := h x (by simp)
  rw [val, List.length_cons, Nat.pow_succ, Nat.mul_comm (B32 ^ xs.length)]
  have h3 : val xs + 1 ≤ B32 ^ xs.length := h1
  have h4 := Nat.mul_le_mul_left B32 h3
  rw [Nat.mul_add] at h4
  omega
def natL (x : Nat) : List Nat := if h : x = 0 then [] else x % B32 :: natL (x / B32)
termination_by x
decreasing_by exact Nat.div_lt_self (Nat.pos_of_ne_zero h) (by decide)
theorem natL_zero : natL 0 = [] := by rw [natL]; simp
theorem natL_pos {x : Nat} (h : x ≠ 0) : natL x = x % B32 :: natL (x / B32) := by
 conv => lhs; rw [natL]
 simp [h]
theorem natL_val (x : Nat) : val (natL x) = x := by
 induction x using Nat.strongRecOn with
 | _ x ih =>
  by_cases h : x = 0
  ·subst h; rw [natL_zero]; rfl
  ·rw [natL_pos h, val, ih (x / B32) (Nat.div_lt_self (Nat.pos_of_ne_zero h) (by decide))]
   exact Nat.mod_add_div x B32
theorem natL_ok (x : Nat) : okN (natL x) := by
 induction x using Nat.strongRecOn with
 | _ x ih =>
  by_cases h : x = 0
  ·subst h; rw [natL_zero]; intro y hy; cases hy
  ·rw [natL_pos h]
   intro y hy
   rcases List.mem_cons.1 hy with rfl | hy
   ·exact Nat.mod_lt _ (by decide)
   ·exact ih (x / B32) (Nat.div_lt_self (Nat.pos_of_ne_zero h) (by decide)) y hy
def canon (xs : List Nat) : Prop := okN xs ∧ ∀ n, xs.length = n + 1 → xs.getD n 0 ≠ 0
theorem okN_cons {x : Nat} {xs : List Nat} (h : okN (x :: xs)) : okN xs := fun y hy => h y (by simp [hy])
theorem canon_natL : ∀ {xs : List Nat}, canon xs → natL (val xs) = xs
 | [], _ => natL_zero
 | x :: xs, h => by
  have hx := h.1 x (by simp)
  have hc : canon xs := ⟨okN_cons h.1, fun n hn => by have := h.2 (n + 1) (by simp [hn]); simpa [List.getD] using this⟩
  have hne : val (x :: xs) ≠ 0 := by
   intro h0
   rw [val] at h0
   rcases xs with _ | ⟨y, ys⟩
   ·have := h.2 0 rfl
    simp [List.getD] at this
    omega
   ·have hy : val (y :: ys) = 0 := by
     have : B32 * val (y :: ys) = 0 := by omega
     rcases Nat.mul_eq_zero.1 this with h1 | h1
     ·exact absurd h1 (by decide)
     ·exact h1
    have e := canon_natL hc
    rw [hy, natL_zero] at e
    cases e
  rw [natL_pos hne]
  have hm : val (x :: xs) % B32 = x := by rw [val, Nat.add_mul_mod_self_left, Nat.mod_eq_of_lt hx]
  have hd : val (x :: xs) / B32 = val xs := by rw [val, Nat.add_mul_div_left _ _ (by decide : 0 < B32), Nat.div_eq_of_lt hx, Nat.zero_add]
  rw [hm, hd, canon_natL hc]
theorem natL_canon (x : Nat) : canon (natL x) := by
 refine ⟨natL_ok x, ?_⟩
 induction x using Nat.strongRecOn with
 | _ x ih =>
  intro n hn
  by_cases h : x = 0
  ·subst h; rw [natL_zero] at hn; cases hn
  ·rw [natL_pos h] at hn ⊢
   have hlt := Nat.div_lt_self (Nat.pos_of_ne_zero h) (show 1 < B32 by decide)
   rcases n with _ | n
   ·simp only [List.length_cons] at hn
    have h0 : (natL (x / B32)).length = 0 := by omega
    have h1 : natL (x / B32) = [] := List.eq_nil_of_length_eq_zero h0
    have h2 : x / B32 = 0 := by rw [← natL_val (x / B32), h1]; rfl
    have h3 := Nat.mod_add_div x B32
    rw [h2] at h3
    simp [List.getD]
    omega
   ·have := ih (x / B32) hlt n (by simp only [List.length_cons] at hn; omega)
    simpa [List.getD] using this
theorem okN_take {xs : List Nat} (h : okN xs) (n : Nat) : okN (xs.take n) := fun y hy => h y (List.mem_of_mem_take hy)
theorem val_snoc (xs : List Nat) (y : Nat) : val (xs ++ [y]) = val xs + B32 ^ xs.length * y := by
 rw [val_append]; simp [val]
theorem val_take_succ (xs : List Nat) (k : Nat) (h : k < xs.length) : val (xs.take (k + 1)) = val (xs.take k) + B32 ^ k * xs.getD k 0 := by
 rw [List.take_succ_eq_append_getElem h, val_snoc, List.length_take, Nat.min_eq_left (Nat.le_of_lt h)]
 simp [List.getD, h]
theorem trim_done {xs : List Nat} {n : Nat} (hok : okN xs) (hn : n ≤ xs.length) (hv : val (xs.take n) = val xs) (hl : n = 0 ∨ xs.getD (n - 1) 0 ≠ 0) : xs.take n = natL (val xs) := by
 rw [← hv]
 refine (canon_natL ⟨okN_take hok n, fun m hm => ?_⟩).symm
 rw [List.length_take, Nat.min_eq_left hn] at hm
 rcases hl with h0 | h0
 ·omega
 ·have e : n - 1 = m := by omega
  rw [e] at h0
  have : (xs.take n).getD m 0 = xs.getD m 0 := by simp [List.getD, show m < n by omega]
  rw [this]; exact h0
theorem trim_step {xs : List Nat} {n : Nat} (hn : n + 1 ≤ xs.length) (hv : val (xs.take (n + 1)) = val xs) (h0 : xs.getD n 0 = 0) : val (xs.take n) = val xs := by
 rw [val_take_succ xs n (by omega), h0] at hv
 omega
theorem val_cmp {xs ys : List Nat} (hl : xs.length = ys.length) (hx : okN xs) (hy : okN ys) : ∀ (n : Nat), n ≤ xs.length → (∀ j, n ≤ j → j < xs.length → xs.getD j 0 = ys.getD j 0) → (val xs < val ys ↔ val (xs.take n) < val (ys.take n)) ∧ (val xs = val ys ↔ val (xs.take n) = val (ys.take n)) := by
 intro n hn
 obtain ⟨d, hd⟩ : ∃ d, xs.length = n + d := ⟨xs.length - n, by omega⟩
 induction d generalizing n with
 | zero =>
  intro _
  rw [List.take_of_length_le (by omega), List.take_of_length_le (by omega)]
  exact ⟨Iff.rfl, Iff.rfl⟩
 | succ d ih =>
  intro he
  have h1 := ih (n + 1) (by omega) (by omega) (fun j hj hj2 => he j (by omega) hj2)
  have e := he n (Nat.le_refl _) (by omega)
  rw [val_take_succ xs n (by omega), val_take_succ ys n (by omega), e] at h1
  refine ⟨h1.1.trans ?_, h1.2.trans ?_⟩ <;> omega
theorem cmp_lt {xs ys : List Nat} (hl : xs.length = ys.length) (hx : okN xs) (hy : okN ys) {n : Nat} (hn : n < xs.length) (he : ∀ j, n + 1 ≤ j → j < xs.length → xs.getD j 0 = ys.getD j 0) (h : xs.getD n 0 < ys.getD n 0) : val xs < val ys := by
 refine (val_cmp hl hx hy (n + 1) (by omega) he).1.2 ?_
 rw [val_take_succ xs n hn, val_take_succ ys n (by omega)]
 have h1 := val_lt _ (okN_take hx n)
 rw [List.length_take, Nat.min_eq_left (by omega)] at h1
 have h2 := Nat.mul_le_mul_left (B32 ^ n) (show xs.getD n 0 + 1 ≤ ys.getD n 0 from h)
 rw [Nat.mul_add, Nat.mul_one] at h2
 omega
theorem natL_len_lt {x y : Nat} (h : (natL x).length < (natL y).length) : x < y := by
 have h1 := val_lt _ (natL_ok x)
 rw [natL_val] at h1
 obtain ⟨n, hn⟩ : ∃ n, (natL y).length = n + 1 := ⟨(natL y).length - 1, by omega⟩
 have h2 := (natL_canon y).2 n hn
 have h3 := val_take_succ (natL y) n (by omega)
 rw [List.take_of_length_le (by omega), natL_val] at h3
 have h4 : B32 ^ (natL x).length ≤ B32 ^ n := Nat.pow_le_pow_right (by decide) (by omega)
 have h5 : B32 ^ n * 1 ≤ B32 ^ n * (natL y).getD n 0 := Nat.mul_le_mul_left _ (by omega)
 omega
theorem natL_len_le {x k : Nat} (h : x < B32 ^ k) : (natL x).length ≤ k := by
 rcases Nat.lt_or_ge k (natL x).length with hl | hl
 ·obtain ⟨n, hn⟩ : ∃ n, (natL x).length = n + 1 := ⟨(natL x).length - 1, by omega⟩
  have h2 := (natL_canon x).2 n hn
  have h3 := val_take_succ (natL x) n (by omega)
  rw [List.take_of_length_le (by omega), natL_val] at h3
  have h4 : B32 ^ k ≤ B32 ^ n := Nat.pow_le_pow_right (by decide) (by omega)
  have h5 : B32 ^ n * 1 ≤ B32 ^ n * (natL x).getD n 0 := Nat.mul_le_mul_left _ (by omega)
  omega
 ·exact hl
end Go.Proofs.YtcimmgpmkfbpdaaGreatDoor.NatM

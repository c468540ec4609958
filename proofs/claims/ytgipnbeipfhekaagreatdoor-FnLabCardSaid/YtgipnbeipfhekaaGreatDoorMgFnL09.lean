/- The program's naturals: numbers shifted up and down. -/
import Derived.Test.YtgipnbeipfhekaaGreatDoorMgFnL08
import Derived.Test.YtgipnbeipfhekaaGreatDoorMgFnL02
import Derived.Shelf.Lay
import Derived.Shelf.Small.Bits
import Derived.Lib.ItoaNum
import Derived.Lib.SliceRun
import Derived.Deep.AppendSrc
import Derived.Laws.CopyOwn
import Derived.Test.YtgipnbeipfhekaaGreatDoorMgFnL00
set_option linter.unusedVariables false
set_option linter.unusedSimpArgs false
namespace Go.Proofs.YtgipnbeipfhekaaGreatDoor
namespace Nat32
open Go.RowKit Base Mem NatM
def us (xs : List Nat) : List Value := xs.map fun (x : Nat) => Value.int .u32 (x : Int)
theorem us_len (xs : List Nat) : (us xs).length = xs.length := by simp [us]
theorem us_get (xs : List Nat) (i : Nat) (h : i < xs.length) : (us xs)[i]? = some (.int .u32 ((xs.getD i 0 : Nat) : Int)) := by simp [us, List.getD, h]
theorem us_set (xs : List Nat) (i x : Nat) : (us xs).set i (.int .u32 (x : Int)) = us (xs.set i x) := by simp [us, List.map_set]
def OwnU (w : World) (B : Nat) (v : Value) (xs : List Nat) : Prop := w.ownsRow B 221 1 v xs.length (us xs)
theorem OwnU.form {w : World} {B : Nat} {v : Value} {xs : List Nat} (h : OwnU w B v xs) : ∃ A c, v = .slice A xs.length c ∧ (0 < xs.length → ∃ g, A = some ⟨g, 0, none⟩ ∧ B ≤ g ∧ g < w.heap.size) := ownsRow_form h
theorem OwnU.rd {w : World} {B n c : Nat} {A : Option Addr} {xs : List Nat} (h : OwnU w B (.slice A n c) xs) : RdU w w.heap.size A xs := fun h0 => by
 obtain ⟨A', c', e, hf⟩ := ownsRow_form h
 injection e with e1 e2 e3
 subst e1 e2 e3
 obtain ⟨g, rfl, _, hlt⟩ := hf h0
 refine ⟨g, 0, rfl, hlt, fun i hi => ?_⟩
 have h' : w.ownsRow B 221 1 (.slice (some ⟨g, 0, none⟩) xs.length c) xs.length (us xs) := h
 rw [Nat.zero_add, World.ownsRow.cellAt h' i (by omega), us_get xs i hi]
theorem OwnU.below {w w' : World} {B : Nat} {v : Value} {xs : List Nat} (h : OwnU w B v xs) (hb : Below w.heap.size w w') : OwnU w' B v xs := ownsRow_below h hb
theorem OwnU.set {w : World} {B g n c : Nat} {xs : List Nat} (h : OwnU w B (.slice (some ⟨g, 0, none⟩) n c) xs) (hn : xs.length = n) (i x : Nat) :
  OwnU (w.setCell ⟨g, i, none⟩ (.int .u32 (x : Int))) B (.slice (some ⟨g, 0, none⟩) n c) (xs.set i x) ∧ w.grownBy (w.setCell ⟨g, i, none⟩ (.int .u32 (x : Int))) (some g) := by
 subst hn
 unfold OwnU at *
 obtain ⟨h1, h2⟩ := h.stored i (.int .u32 (x : Int))
 rw [us_set] at h1
 rw [List.length_set]
 exact ⟨h1, h2⟩
theorem OwnU.cell {w : World} {B g n c : Nat} {xs : List Nat} (h : OwnU w B (.slice (some ⟨g, 0, none⟩) n c) xs) (hn : xs.length = n) (i : Nat) (hi : i < n) :
  w.cell? ⟨g, i, none⟩ = some (.int .u32 ((xs.getD i 0 : Nat) : Int)) ∧ w.frozen? ⟨g, i, none⟩ = false := by
 subst hn
 have h' : w.ownsRow B 221 1 (.slice (some ⟨g, 0, none⟩) xs.length c) xs.length (us xs) := h
 exact ⟨by rw [World.ownsRow.cellAt h' i (by omega), us_get xs i hi], h'.frozenAt i⟩
theorem OwnU.ge {w : World} {B g n c : Nat} {xs : List Nat} (h : OwnU w B (.slice (some ⟨g, 0, none⟩) n c) xs) : B ≤ g ∧ g < w.heap.size := by
 obtain ⟨_, _, h1, h2⟩ := ownsRow_block (g := g) h rfl
 exact ⟨h1, h2⟩
theorem infoU : (Tryz.prog.info? 221).map (fun i => (i.zero, i.size, i.bytes)) = some (some (.int .u32 0), 1, 4) := by kernel_rfl
def zerosU (n : Nat) : List Nat := List.replicate n 0
theorem made_own (w : World) (n : Nat) (hn : n ≤ 10000000) : OwnU (w.alloc (.cells (madeCells #[.int .u32 0] n) 221)) w.heap.size (.slice (some ⟨w.heap.size, 0, none⟩) n n) (zerosU n) := by
 have := World.ownsRow_lit (e := 221) (size := 1) (base := w.heap.size) w (madeCells #[.int .u32 0] n) n (Nat.le_refl _) (by simp [maxLen]; omega) (by simp [size_madeCells])
 rw [toList_madeCells_one] at this
 unfold OwnU zerosU
 rw [List.length_replicate, show us (List.replicate n 0) = List.replicate n (.int .u32 0) by simp [us]]
 exact this
theorem val_set (ys : List Nat) (i x : Nat) (h : i < ys.length) : val ((ys.set i x).take (i + 1)) = val (ys.take i) + B32 ^ i * x := by
 rw [val_take_succ _ i (by rw [List.length_set]; exact h)]
 have e1 : (ys.set i x).take i = ys.take i := by rw [List.take_set, List.set_eq_of_length_le (by rw [List.length_take]; omega)]
 rw [e1]
 simp [List.getD, h]
theorem okN_set {ys : List Nat} {i x : Nat} (h : i < ys.length) (ho : okN (ys.take i)) (hx : x < B32) : okN ((ys.set i x).take (i + 1)) := by
 have e : (ys.set i x).take (i + 1) = ys.take i ++ [x] := by
  rw [List.take_succ_eq_append_getElem (by rw [List.length_set]; exact h)]
  rw [List.take_set, List.set_eq_of_length_le (by rw [List.length_take]; omega)]
  simp
 rw [e]
 intro y hy
 rcases List.mem_append.1 hy with hy | hy
 ·exact ho y hy
 ·simp only [List.mem_singleton] at hy; rw [hy]; exact hx
theorem up_step {v C x P i vx : Nat} (hC : C < P) (hx : x < B32) (h : v + B32 ^ i * C = vx * P) :
  (C + x * P) / B32 < P ∧ v + B32 ^ i * ((C + x * P) % B32) + B32 ^ (i + 1) * ((C + x * P) / B32) = (vx + B32 ^ i * x) * P := by
 refine ⟨?_, ?_⟩
 ·rw [Nat.div_lt_iff_lt_mul (by decide)]
  have h1 : x * P ≤ (B32 - 1) * P := Nat.mul_le_mul_right _ (by omega)
  rw [Nat.sub_mul, Nat.one_mul] at h1
  have h2 : P ≤ B32 * P := Nat.le_mul_of_pos_left _ (by decide)
  rw [Nat.mul_comm P B32]
  omega
 ·have h3 := Nat.mod_add_div (C + x * P) B32
  rw [Nat.pow_succ, Nat.mul_assoc, Nat.add_assoc, ← Nat.mul_add, h3, Nat.mul_add, Nat.add_mul, ← h, Nat.mul_assoc]
  omega
def UpRel (g s : Nat) (xs : List Nat) (w : World) (iv cv : Value) (wr : World) : Prop :=
 ∃ (i C : Nat) (ys : List Nat), iv = .int .i64 (i : Int) ∧ i ≤ xs.length ∧ cv = .int .u64 (C : Int) ∧ ys.length = xs.length + 1 ∧ C < 2 ^ s ∧ Hid (okN (ys.take i)) ∧ Hid (val (ys.take i) + B32 ^ i * C = val (xs.take i) * 2 ^ s) ∧ Hid (OwnU wr w.heap.size (.slice (some ⟨g, 0, none⟩) (xs.length + 1) (xs.length + 1)) ys) ∧ Hid (Below w.heap.size w wr)
def UpRet (s : Nat) (xs : List Nat) (w : World) (e : Ending) (w' : World) : Prop :=
 ∃ (g : Nat) (ys : List Nat), e = .returned (.slice (some ⟨g, 0, none⟩) (xs.length + 1) (xs.length + 1)) ∧ ys.length = xs.length + 1 ∧ okN ys ∧ val ys = val xs * 2 ^ s ∧ OwnU w' w.heap.size (.slice (some ⟨g, 0, none⟩) (xs.length + 1) (xs.length + 1)) ys ∧ Below w.heap.size w w'
set_option maxHeartbeats 1000000 in
theorem up_any (A : Option Addr) (c B s : Nat) (xs : List Nat) (w : World) (hx : RdU w B A xs) (hB : B ≤ w.heap.size) (hok : okN xs) (hl : xs.length ≤ 4000000) (hs : s ≤ 31) :
  Calls Tryz.prog 250 #[.slice A xs.length c, .int .i64 (s : Int)] w (UpRet s xs w) := by
 have hmk := run_make_row' (P := Tryz.prog) 145 221 (.int .u32 0) 4 Tryz.underlying145 infoU rfl .i64 .i64 (xs.length + 1) (by omega) (by omega)
 have hcast : ((xs.length + 1 : Nat) : Int) = (xs.length : Int) + 1 := by omega
 rw [hcast] at hmk
 have HX := J hx
 have HOk := J hok
 have H0 : Hid (UpRel w.heap.size s xs w (.int .i64 0) (.int .u64 0) (w.alloc (.cells (madeCells #[.int .u32 0] (xs.length + 1)) 221))) :=
  J ⟨0, 0, zerosU (xs.length + 1), rfl, Nat.zero_le _, rfl, by simp [zerosU], Nat.two_pow_pos s, J (by intro y hy; simp at hy), J (by simp [val]), J (made_own w _ (by omega)), J ((Below.refl _ _).alloc (Nat.le_refl _) _)⟩
 clear hx hok hcast
 go_enter Tryz.func250, Tryz.ntmps250
 go_wp2
 clear hmk
 go_loopw [15, 6] (fun iv cv wr => UpRel w.heap.size s xs w iv cv wr) (fun iv _ _ => xs.length - (intOf iv).toNat)
 case atStart => exact H0.out
 case round =>
  obtain ⟨i, C, ys, rfl, hi, rfl, hyl, hC, ho, hv, HO, HBl⟩ := hrel
  clear H0
  by_cases hlt : i < xs.length
  ·have hx1 : xs.getD i 0 < B32 := HOk.out _ (by simp [List.getD, hlt])
   obtain ⟨b, off, rfl, _, hc⟩ := (HX.out.below HBl.out hB) (by omega)
   have gx := hc i hlt
   clear hc
   obtain ⟨gc, gf⟩ := HO.out.cell hyl i (by omega)
   have hvx := val_take_succ xs i hlt
   obtain ⟨q1, q2⟩ := up_step (i := i) hC hx1 hv.out
   rw [← hvx] at q2
   have hP : 2 ^ s ≤ 2 ^ 31 := Nat.pow_le_pow_right (by decide) hs
   have hP0 : 0 < 2 ^ s := Nat.two_pow_pos s
   have hM : xs.getD i 0 * 2 ^ s < 9223372036854775808 := by
    have h1 : xs.getD i 0 * 2 ^ s ≤ 4294967295 * 2147483648 := Nat.mul_le_mul (by unfold B32 at hx1; omega) hP
    omega
   obtain ⟨M, hMe⟩ : ∃ M, M = xs.getD i 0 * 2 ^ s := ⟨_, rfl⟩
   have hor : C ||| M = C + M := by
    have e := Nat.shiftLeft_add_eq_or_of_lt hC (xs.getD i 0)
    rw [Nat.shiftLeft_eq, ← hMe] at e
    rw [Nat.or_comm, ← e, Nat.add_comm]
   have hmul : ((xs.getD i 0 : Nat) : Int) * (2 : Int) ^ s = (M : Int) := by rw [hMe]; simp
   have hbo : bits .or .u64 (C : Int) (M : Int) = ((C + M : Nat) : Int) := by rw [u64_or C M (by omega) (by omega), hor]
   rw [← hMe] at q1 q2 hM
   have hCM : C + M < 9223372036854775808 + 2147483648 := by omega
   have Q := J (And.intro q1 q2)
   have HM := J hM
   clear hvx hor hMe q1 q2 hP hP0
   unfold B32 at hx1
   generalize hS : C + M = S at *
   have HN : Hid (UpRel w.heap.size s xs w (.int .i64 ((i : Int) + 1)) (.int .u64 ((S : Int) / 4294967296)) (wr.setCell ⟨w.heap.size, i, none⟩ (.int .u32 ((S : Int) % 4294967296)))) := J (by
    have e1 : ((S % B32 : Nat) : Int) = (S : Int) % 4294967296 := by simp [B32]
    have e2 : ((S / B32 : Nat) : Int) = (S : Int) / 4294967296 := by simp [B32]
    obtain ⟨o1, _⟩ := HO.out.set hyl i (S % B32)
    rw [e1] at o1
    refine ⟨i + 1, S / B32, ys.set i (S % B32), by go_num, hlt, by rw [e2], by rw [List.length_set]; exact hyl, Q.out.1, J (okN_set (by omega) ho.out (Nat.mod_lt _ (by decide))), J ?_, J o1, J (HBl.out.setCell (Nat.le_refl _) _)⟩
    rw [val_set ys i _ (by omega)]
    exact Q.out.2)
   generalize xs.getD i 0 = x at *
   generalize ys.getD i 0 = y at *
   clear hS
   go_wp2
   go_roundw
   case rel => exact HN.out
   case measure => simp [intOf]; omega
  ·obtain rfl : i = xs.length := by omega
   obtain ⟨gc, gf⟩ := HO.out.cell hyl xs.length (by omega)
   have hP : 2 ^ s ≤ 2 ^ 31 := Nat.pow_le_pow_right (by decide) hs
   have hC32 : C < 4294967296 := by omega
   have HR : Hid (UpRet s xs w (.returned (.slice (some ⟨w.heap.size, 0, none⟩) (xs.length + 1) (xs.length + 1))) (wr.setCell ⟨w.heap.size, xs.length, none⟩ (.int .u32 (C : Int)))) := J (by
    obtain ⟨o1, _⟩ := HO.out.set hyl xs.length C
    refine ⟨w.heap.size, ys.set xs.length C, rfl, by rw [List.length_set]; exact hyl, ?_, ?_, o1, HBl.out.setCell (Nat.le_refl _) _⟩
    ·have := okN_set (ys := ys) (i := xs.length) (x := C) (by omega) ho.out hC32
     rw [List.take_of_length_le (by rw [List.length_set]; omega)] at this
     exact this
    ·have := val_set ys xs.length C (by omega)
     rw [List.take_of_length_le (by rw [List.length_set]; omega), hv.out, List.take_of_length_le (Nat.le_refl _)] at this
     exact this)
   generalize ys.getD xs.length 0 = y at *
   clear hP
   go_wp2
   go_ret
   exact HR.out
end Nat32
namespace Nat32
open Go.RowKit Base Mem NatM
theorem val_take_any (ys : List Nat) (i : Nat) : val (ys.take (i + 1)) = val (ys.take i) + B32 ^ i * ys.getD i 0 := by
 rcases Nat.lt_or_ge i ys.length with h | h
 ·exact val_take_succ ys i h
 ·rw [List.take_of_length_le (by omega), List.take_of_length_le h]
  have : ys.getD i 0 = 0 := by simp [List.getD, h]
  rw [this]; simp
theorem sub_step {i vo vy vx b b' D x y : Nat} (h : vo + vy = vx + B32 ^ i * b) (hD : D + y + b = x + B32 * b') :
  (vo + B32 ^ i * D) + (vy + B32 ^ i * y) = (vx + B32 ^ i * x) + B32 ^ (i + 1) * b' := by
 have e : B32 ^ i * D + B32 ^ i * y + B32 ^ i * b = B32 ^ i * x + B32 ^ (i + 1) * b' := by
  rw [← Nat.mul_add, ← Nat.mul_add, hD, Nat.mul_add, Nat.pow_succ, Nat.mul_assoc]
 omega
def SubRel (g : Nat) (xs ys : List Nat) (w : World) (iv bv : Value) (wr : World) : Prop :=
 ∃ (i b : Nat) (zs : List Nat), iv = .int .i64 (i : Int) ∧ i ≤ xs.length ∧ bv = .int .i64 (b : Int) ∧ b ≤ 1 ∧ zs.length = xs.length ∧ Hid (okN (zs.take i)) ∧ Hid (val (zs.take i) + val (ys.take i) = val (xs.take i) + B32 ^ i * b) ∧ Hid (OwnU wr w.heap.size (.slice (some ⟨g, 0, none⟩) xs.length xs.length) zs) ∧ Hid (Below w.heap.size w wr)
def NNew (x : Nat) (w : World) (e : Ending) (w' : World) : Prop := ∃ g c, e = .returned (.slice (some ⟨g, 0, none⟩) (natL x).length c) ∧ w.heap.size ≤ g ∧ RdU w' w'.heap.size (some ⟨g, 0, none⟩) (natL x) ∧ Below w.heap.size w w'
theorem NNew.ret {x : Nat} {w w' : World} {e : Ending} (h : NNew x w e w') : NRet x w e w' := by
 obtain ⟨g, c, e1, _, h1, h2⟩ := h
 exact ⟨_, c, e1, h1, h2⟩
set_option maxHeartbeats 2000000 in
theorem minus_new (A A' : Option Addr) (c c' B B' : Nat) (xs ys : List Nat) (w : World) (hx : RdU w B A xs) (hB : B ≤ w.heap.size) (hy : RdU w B' A' ys) (hB' : B' ≤ w.heap.size) (hok : okN xs) (hok' : okN ys) (hl : xs.length ≤ 4000000) (hl' : ys.length ≤ xs.length) (hle : val ys ≤ val xs) :
  Calls Tryz.prog 205 #[.slice A xs.length c, .slice A' ys.length c'] w (NNew (val xs - val ys) w) := by
 have hmk := run_make_row' (P := Tryz.prog) 145 221 (.int .u32 0) 4 Tryz.underlying145 infoU rfl .i64 .i64 xs.length (by omega) (by omega)
 have HX := J hx
 have HY := J hy
 have HOk := J hok
 have HOk' := J hok'
 have HLe := J hle
 have H0 : Hid (SubRel w.heap.size xs ys w (.int .i64 0) (.int .i64 0) (w.alloc (.cells (madeCells #[.int .u32 0] xs.length) 221))) :=
  J ⟨0, 0, zerosU xs.length, rfl, Nat.zero_le _, rfl, by omega, by simp [zerosU], J (by intro y hy; simp at hy), J (by simp [val]), J (made_own w _ (by omega)), J ((Below.refl _ _).alloc (Nat.le_refl _) _)⟩
 clear hx hy hok hok' hle
 go_enter Tryz.func205, Tryz.ntmps205
 go_wp2
 clear hmk
 go_loopw [14, 6] (fun iv bv wr => SubRel w.heap.size xs ys w iv bv wr) (fun iv _ _ => xs.length - (intOf iv).toNat)
 case atStart => exact H0.out
 case round =>
  obtain ⟨i, b, zs, rfl, hi, rfl, hb1, hzl, ho, hv, HO, HBl⟩ := hrel
  clear H0
  by_cases hlt : i < xs.length
  ·have hx1 : xs.getD i 0 < B32 := HOk.out _ (by simp [List.getD, hlt])
   obtain ⟨bb, off, rfl, _, hc⟩ := (HX.out.below HBl.out hB) (by omega)
   have gx := hc i hlt
   clear hc
   obtain ⟨gc, gf⟩ := HO.out.cell hzl i (by omega)
   have hvx := val_take_any xs i
   have hvy := val_take_any ys i
   have hy1 : ys.getD i 0 < B32 := by
    rcases Nat.lt_or_ge i ys.length with h | h
    ·exact HOk'.out _ (by simp [List.getD, h])
    ·rw [show ys.getD i 0 = 0 by simp [List.getD, h]]; decide
   have HN := J (fun (D b' : Nat) (hb' : b' ≤ 1) (hD : D < B32) (hDe : D + ys.getD i 0 + b = xs.getD i 0 + B32 * b') => (show SubRel w.heap.size xs ys w (.int .i64 ((i : Int) + 1)) (.int .i64 (b' : Int)) (wr.setCell ⟨w.heap.size, i, none⟩ (.int .u32 (D : Int))) from by
    obtain ⟨o1, _⟩ := HO.out.set hzl i D
    refine ⟨i + 1, b', zs.set i D, by go_num, hlt, rfl, hb', by rw [List.length_set]; exact hzl, J (okN_set (by omega) ho.out hD), J ?_, J o1, J (HBl.out.setCell (Nat.le_refl _) _)⟩
    rw [val_set zs i _ (by omega), hvx, hvy]
    exact sub_step hv.out hDe))
   clear hvx hvy
   unfold B32 at hx1 hy1
   unfold B32 at HN
   by_cases hiy : i < ys.length
   ·obtain ⟨bb2, off2, rfl, _, hc2⟩ := (HY.out.below HBl.out hB') (by omega)
    have gy := hc2 i hiy
    clear hc2
    generalize xs.getD i 0 = x at *
    generalize ys.getD i 0 = y at *
    generalize zs.getD i 0 = z at *
    by_cases hneg : (x : Int) - (b : Int) - (y : Int) < 0
    ·have HN2 := J (HN.out (x + 4294967296 - b - y) 1 (by omega) (by omega) (by omega))
     have e1 : ((x + 4294967296 - b - y : Nat) : Int) = (x : Int) - (b : Int) - (y : Int) + 4294967296 := by omega
     rw [e1] at HN2
     clear HN e1
     go_wp2
     go_roundw
     case rel => exact HN2.out
     case measure => simp [intOf]; omega
    ·have HN2 := J (HN.out (x - b - y) 0 (by omega) (by omega) (by omega))
     have e1 : ((x - b - y : Nat) : Int) = (x : Int) - (b : Int) - (y : Int) := by omega
     rw [e1] at HN2
     clear HN e1
     go_wp2
     go_roundw
     case rel => exact HN2.out
     case measure => simp [intOf]; omega
   ·have hy0 : ys.getD i 0 = 0 := by
     have : ys.length ≤ i := by omega
     simp [List.getD, this]
    rw [hy0] at HN
    clear hy0
    generalize xs.getD i 0 = x at *
    generalize zs.getD i 0 = z at *
    by_cases hneg : (x : Int) - (b : Int) < 0
    ·have HN2 := J (HN.out (x + 4294967296 - b) 1 (by omega) (by omega) (by omega))
     have e1 : ((x + 4294967296 - b : Nat) : Int) = (x : Int) - (b : Int) + 4294967296 := by omega
     rw [e1] at HN2
     clear HN e1
     go_wp2
     go_roundw
     case rel => exact HN2.out
     case measure => simp [intOf]; omega
    ·have HN2 := J (HN.out (x - b) 0 (by omega) (by omega) (by omega))
     have e1 : ((x - b : Nat) : Int) = (x : Int) - (b : Int) := by omega
     rw [e1] at HN2
     clear HN e1
     go_wp2
     go_roundw
     case rel => exact HN2.out
     case measure => simp [intOf]; omega
  ·obtain rfl : i = xs.length := by omega
   have hok2 : okN zs := by have := ho.out; rwa [List.take_of_length_le (by omega)] at this
   have hv2 : val zs = val xs - val ys := by
    have h1 := hv.out
    rw [List.take_of_length_le (by omega), List.take_of_length_le hl', List.take_of_length_le (Nat.le_refl _)] at h1
    have h2 := val_lt zs hok2
    rw [hzl] at h2
    have h3 := HLe.out
    have hb01 : b = 0 ∨ b = 1 := by omega
    rcases hb01 with rfl | rfl
    ·omega
    ·rw [Nat.mul_one] at h1; omega
   have hk := natL_take hok2
   have HT := J (trim_any (some ⟨w.heap.size, 0, none⟩) xs.length wr.heap.size zs wr HO.out.rd hok2 (by omega) (by omega) (by omega))
   rw [hzl] at HT
   have HR : Hid (NNew (val zs) w (.returned (.slice (some ⟨w.heap.size, 0, none⟩) (natL (val zs)).length xs.length)) wr) := J ⟨w.heap.size, xs.length, rfl, Nat.le_refl _, by have := HO.out.rd.take hk.2; rwa [hk.1] at this, HBl.out⟩
   rw [hv2] at HT HR
   clear hok2 hv2 hk
   go_wp2_with fail
   refine HT.out.mono ?_
   rintro e w1 ⟨rfl, rfl⟩
   go_wp2
   go_ret
   exact HR.out
theorem minus_any (A A' : Option Addr) (c c' B B' : Nat) (xs ys : List Nat) (w : World) (hx : RdU w B A xs) (hB : B ≤ w.heap.size) (hy : RdU w B' A' ys) (hB' : B' ≤ w.heap.size) (hok : okN xs) (hok' : okN ys) (hl : xs.length ≤ 4000000) (hl' : ys.length ≤ xs.length) (hle : val ys ≤ val xs) :
  Calls Tryz.prog 205 #[.slice A xs.length c, .slice A' ys.length c'] w (NRet (val xs - val ys) w) :=
 (minus_new A A' c c' B B' xs ys w hx hB hy hB' hok hok' hl hl' hle).mono fun _ _ h => h.ret
end Nat32
namespace Nat32
open Go.RowKit Base Mem NatM
theorem val_setw : ∀ (l : List Nat) (j d : Nat), j < l.length → val (l.set j d) + B32 ^ j * l.getD j 0 = val l + B32 ^ j * d
 | [], j, d, h => by simp at h
 | x :: l, 0, d, _ => by simp [val]; omega
 | x :: l, j + 1, d, h => by
  have ih := val_setw l j d (by simpa using h)
  rw [List.set_cons_succ, val, val, show (x :: l).getD (j + 1) 0 = l.getD j 0 by simp [List.getD]]
  have e : B32 ^ (j + 1) = B32 * B32 ^ j := by rw [Nat.pow_succ, Nat.mul_comm]
  rw [e, Nat.mul_assoc, Nat.mul_assoc]
  have := congrArg (B32 * ·) ih
  simp only [Nat.mul_add] at this
  omega
theorem okN_setw {l : List Nat} {j d : Nat} (h : okN l) (hd : d < B32) : okN (l.set j d) := fun y hy => by
 rcases List.mem_or_eq_of_mem_set hy with hy | rfl
 ·exact h y hy
 ·exact hd
theorem getD_set_ne {l : List Nat} {i j d : Nat} (h : i ≠ j) : (l.set i d).getD j 0 = l.getD j 0 := by
 simp [List.getD, h]
theorem okN_at {l : List Nat} (h : okN l) (j : Nat) : l.getD j 0 < B32 := by
 rcases Nat.lt_or_ge j l.length with hl | hl
 ·exact h _ (by simp [List.getD, hl])
 ·rw [show l.getD j 0 = 0 by simp [List.getD, hl]]; decide
theorem mul_step {i k vz vz' C V0 x y o vy S : Nat} (h : vz + B32 ^ (i + k) * C = V0 + x * B32 ^ i * vy) (hS : S = C + (o + x * y)) (hset : vz' + B32 ^ (i + k) * o = vz + B32 ^ (i + k) * (S % B32)) :
  vz' + B32 ^ (i + (k + 1)) * (S / B32) = V0 + x * B32 ^ i * (vy + B32 ^ k * y) := by
 have h1 := Nat.mod_add_div S B32
 have e1 : B32 ^ (i + (k + 1)) = B32 ^ (i + k) * B32 := by rw [← Nat.add_assoc, Nat.pow_succ]
 have e2 : B32 ^ (i + k) * S = B32 ^ (i + k) * (S % B32) + B32 ^ (i + k) * B32 * (S / B32) := by rw [Nat.mul_assoc, ← Nat.mul_add, h1]
 have e3 : B32 ^ (i + k) * S = B32 ^ (i + k) * C + (B32 ^ (i + k) * o + B32 ^ (i + k) * (x * y)) := by rw [hS, Nat.mul_add, Nat.mul_add]
 have e4 : x * B32 ^ i * (B32 ^ k * y) = B32 ^ (i + k) * (x * y) := by
  rw [Nat.pow_add]
  simp only [Nat.mul_assoc, Nat.mul_left_comm, Nat.mul_comm]
 rw [e1, Nat.mul_add, e4]
 omega
def MulRel (g n : Nat) (xs ys : List Nat) (w : World) (iv : Value) (wr : World) : Prop :=
 ∃ (i : Nat) (zs : List Nat), iv = .int .i64 (i : Int) ∧ i ≤ xs.length ∧ zs.length = n ∧ Hid (okN zs) ∧ Hid (∀ j, i + ys.length ≤ j → zs.getD j 0 = 0) ∧ Hid (val zs = val (xs.take i) * val ys) ∧ Hid (OwnU wr w.heap.size (.slice (some ⟨g, 0, none⟩) n n) zs) ∧ Hid (Below w.heap.size w wr)
def RowRel (g n i x V0 : Nat) (xs ys : List Nat) (w : World) (kv cv : Value) (wr : World) : Prop :=
 ∃ (k C : Nat) (zs : List Nat), kv = .int .i64 (k : Int) ∧ k ≤ ys.length ∧ cv = .int .u64 (C : Int) ∧ C < 4294967296 ∧ zs.length = n ∧ Hid (okN zs) ∧ Hid (∀ j, i + ys.length ≤ j → zs.getD j 0 = 0) ∧ Hid (val zs + B32 ^ (i + k) * C = V0 + x * B32 ^ i * val (ys.take k)) ∧ Hid (OwnU wr w.heap.size (.slice (some ⟨g, 0, none⟩) n n) zs) ∧ Hid (Below w.heap.size w wr)
theorem RowRel.next {g n i x V0 k C S M : Nat} {xs ys zs : List Nat} {w wr : World} (hg : g = w.heap.size) (hn : n = xs.length + ys.length) (hi : i < xs.length) (hk : k < ys.length) (hzl : zs.length = n) (hx : x < B32) (hC : C < B32) (hok : okN zs) (hok' : okN ys) (hz : ∀ j, i + ys.length ≤ j → zs.getD j 0 = 0)
  (hv : val zs + B32 ^ (i + k) * C = V0 + x * B32 ^ i * val (ys.take k)) (hO : OwnU wr w.heap.size (.slice (some ⟨g, 0, none⟩) n n) zs) (hb : Below w.heap.size w wr) (hM : M = x * ys.getD k 0) (hS : S = C + (zs.getD (i + k) 0 + M)) :
  RowRel g n i x V0 xs ys w (.int .i64 ((k : Int) + 1)) (.int .u64 ((S : Int) / 4294967296)) (wr.setCell ⟨g, i + k, none⟩ (.int .u32 ((S : Int) % 4294967296))) := by
 have e1 : ((S % B32 : Nat) : Int) = (S : Int) % 4294967296 := by simp [B32]
 have e2 : ((S / B32 : Nat) : Int) = (S : Int) / 4294967296 := by simp [B32]
 obtain ⟨o1, _⟩ := hO.set hzl (i + k) (S % B32)
 rw [e1] at o1
 have hyk := okN_at hok' k
 have hz1 := okN_at hok (i + k)
 have hMle : M ≤ (B32 - 1) * (B32 - 1) := by rw [hM]; exact Nat.mul_le_mul (by omega) (by omega)
 have hSlt : S / B32 < 4294967296 := by
  rw [Nat.div_lt_iff_lt_mul (by decide)]
  unfold B32 at *
  omega
 refine ⟨k + 1, S / B32, zs.set (i + k) (S % B32), by go_num, hk, by rw [e2], hSlt, by rw [List.length_set]; exact hzl, J (okN_setw hok (Nat.mod_lt _ (by decide))), J fun j hj => ?_, J ?_, J o1, J (hb.setCell (by rw [hg]; exact Nat.le_refl _) _)⟩
 ·rw [getD_set_ne (by omega)]; exact hz j hj
 ·rw [val_take_any ys k]
  exact mul_step hv (by rw [hS, hM]) (val_setw zs (i + k) _ (by omega))
set_option maxHeartbeats 2000000 in
theorem times_any (A A' : Option Addr) (c c' B B' : Nat) (xs ys : List Nat) (w : World) (hx : RdU w B A xs) (hB : B ≤ w.heap.size) (hy : RdU w B' A' ys) (hB' : B' ≤ w.heap.size) (hok : okN xs) (hok' : okN ys) (hl : xs.length ≤ 2000000) (hl' : ys.length ≤ 2000000) :
  Calls Tryz.prog 202 #[.slice A xs.length c, .slice A' ys.length c'] w (NRet (val xs * val ys) w) := by
 have hmk := run_make_row' (P := Tryz.prog) 145 221 (.int .u32 0) 4 Tryz.underlying145 infoU rfl .i64 .i64 (xs.length + ys.length) (by omega) (by omega)
 have hcast : ((xs.length + ys.length : Nat) : Int) = (xs.length : Int) + (ys.length : Int) := by omega
 rw [hcast] at hmk
 have HX := J hx
 have HY := J hy
 have HOk := J hok
 have HOk' := J hok'
 have H0 : Hid (MulRel w.heap.size (xs.length + ys.length) xs ys w (.int .i64 0) (w.alloc (.cells (madeCells #[.int .u32 0] (xs.length + ys.length)) 221))) :=
  J ⟨0, zerosU (xs.length + ys.length), rfl, Nat.zero_le _, by simp [zerosU], J (by intro y hy; unfold zerosU at hy; rw [(List.mem_replicate.1 hy).2]; decide), J (fun j _ => by simp [zerosU, List.getD, List.getElem?_replicate]; split <;> rfl), J (by
   have : ∀ m, val (zerosU m) = 0 := fun m => by
    induction m with
    | zero => rfl
    | succ m ih => rw [zerosU, List.replicate_succ, val]; unfold zerosU at ih; rw [ih]; rfl
   rw [this]; simp [val]), J (made_own w _ (by omega)), J ((Below.refl _ _).alloc (Nat.le_refl _) _)⟩
 clear hx hy hok hok' hcast
 go_enter Tryz.func202, Tryz.ntmps202
 go_wp2
 clear hmk
 go_loopw [19] (fun iv wr => MulRel w.heap.size (xs.length + ys.length) xs ys w iv wr) (fun iv _ => xs.length - (intOf iv).toNat)
 case atStart => exact H0.out
 case round =>
  obtain ⟨i, zs, rfl, hi, hzl, hok, hz, hv, HO, HBl⟩ := hrel
  clear H0
  by_cases hlt : i < xs.length
  ·have hx1 : xs.getD i 0 < B32 := okN_at HOk.out i
   obtain ⟨bb, off, rfl, _, hc⟩ := (HX.out.below HBl.out hB) (by omega)
   have gx := hc i hlt
   clear hc
   have hvx := J (val_take_any xs i)
   have HR0 : Hid (RowRel w.heap.size (xs.length + ys.length) i (xs.getD i 0) (val zs) xs ys w (.int .i64 0) (.int .u64 0) wr) :=
    J ⟨0, 0, zs, rfl, Nat.zero_le _, rfl, by omega, hzl, hok, hz, J (by simp [val]), HO, HBl⟩
   have HV0 := J hv.out
   obtain ⟨V0, hV0⟩ : ∃ V0, val zs = V0 := ⟨_, rfl⟩
   rw [hV0] at HR0 HV0
   have HX1 := J hx1
   clear hV0 hv hz hok HO HBl hzl hx1
   generalize xs.getD i 0 = x at *
   go_wp2
   go_loopw [26, 8] (fun kv cv wr => RowRel w.heap.size (xs.length + ys.length) i x V0 xs ys w kv cv wr) (fun kv _ _ => ys.length - (intOf kv).toNat)
   case atStart => exact HR0.out
   case round =>
    obtain ⟨k, C, zs, rfl, hk, rfl, hC, hzl, hok, hz, hv, HO, HBl⟩ := hrel
    clear HR0
    by_cases hkt : k < ys.length
    ·obtain ⟨bb2, off2, rfl, _, hc2⟩ := (HY.out.below HBl.out hB') (by omega)
     have gy := hc2 k hkt
     clear hc2
     have hy1 := okN_at HOk'.out k
     have hz1 := okN_at hok.out (i + k)
     have hx1 := HX1.out
     obtain ⟨gc, gf⟩ := HO.out.cell hzl (i + k) (by omega)
     obtain ⟨M, hM⟩ : ∃ M, M = x * ys.getD k 0 := ⟨_, rfl⟩
     have hMle : M ≤ 4294967295 * 4294967295 := by rw [hM]; exact Nat.mul_le_mul (by unfold B32 at hx1; omega) (by unfold B32 at hy1; omega)
     obtain ⟨S, hS⟩ : ∃ S, S = C + (zs.getD (i + k) 0 + M) := ⟨_, rfl⟩
     have HN := J (RowRel.next (g := w.heap.size) rfl rfl hlt hkt hzl hx1 hC hok.out HOk'.out hz.out hv.out HO.out HBl.out hM hS)
     have hmul : (x : Int) * ((ys.getD k 0 : Nat) : Int) = (M : Int) := by rw [hM]; simp
     have hsum : (C : Int) + (((zs.getD (i + k) 0 : Nat) : Int) + (M : Int)) = (S : Int) := by omega
     have hSlt : S < 18446744073709551616 := by unfold B32 at hz1; omega
     have HS2 := J hS
     unfold B32 at hy1 hz1 hx1
     clear hM hS
     generalize ys.getD k 0 = y at *
     generalize zs.getD (i + k) 0 = z at *
     go_wp2
     go_roundw
     case rel => exact HN.out
     case measure => simp [intOf]; omega
    ·obtain rfl : k = ys.length := by omega
     obtain ⟨gc, gf⟩ := HO.out.cell hzl (i + ys.length) (by omega)
     have hz0 := hz.out (i + ys.length) (Nat.le_refl _)
     rw [hz0] at gc
     have HN : Hid (MulRel w.heap.size (xs.length + ys.length) xs ys w (.int .i64 ((i : Int) + 1)) (wr.setCell ⟨w.heap.size, i + ys.length, none⟩ (.int .u32 (C : Int)))) := J (by
      obtain ⟨o1, _⟩ := HO.out.set hzl (i + ys.length) C
      refine ⟨i + 1, zs.set (i + ys.length) C, by go_num, hlt, by rw [List.length_set]; exact hzl, J (okN_setw hok.out (by unfold B32; exact hC)), J fun j hj => ?_, J ?_, J o1, J (HBl.out.setCell (Nat.le_refl _) _)⟩
      ·rw [getD_set_ne (by omega)]; exact hz.out j (by omega)
      ·have h1 := val_setw zs (i + ys.length) C (by omega)
       rw [hz0, Nat.mul_zero, Nat.add_zero, hv.out, List.take_of_length_le (Nat.le_refl _), HV0.out] at h1
       rw [h1, hvx.out, Nat.add_mul, Nat.mul_comm x (B32 ^ i)])
     have hC2 : C < 4294967296 := hC
     clear hz0
     go_wp2
     go_roundw
     case rel => exact HN.out
     case measure => simp [intOf]; omega
  ·obtain rfl : i = xs.length := by omega
   rw [List.take_of_length_le (Nat.le_refl _)] at hv
   have hk := natL_take hok.out
   have HT := J (trim_any (some ⟨w.heap.size, 0, none⟩) (xs.length + ys.length) wr.heap.size zs wr HO.out.rd hok.out (by omega) (by omega) (by omega))
   rw [hzl] at HT
   have HR := J (NRet.of (x := val zs) (w := w) (w' := wr) (c := xs.length + ys.length) HO.out.rd hk.1 hk.2 HBl.out)
   rw [hv.out] at HT HR
   clear hk
   go_wp2_with fail
   refine HT.out.mono ?_
   rintro e w1 ⟨rfl, rfl⟩
   go_wp2
   go_ret
   exact HR.out
end Nat32
namespace Nat32
open Go.RowKit Base Mem NatM
theorem drop_cons {l : List Nat} {m : Nat} (h : m < l.length) : l.drop m = l.getD m 0 :: l.drop (m + 1) := by
 rw [List.drop_eq_getElem_cons h]
 simp [List.getD, h]
theorem drop_setw {l : List Nat} {m d : Nat} (h : m < l.length) : (l.set m d).drop m = d :: l.drop (m + 1) := by
 rw [drop_cons (by rw [List.length_set]; exact h)]
 have e1 : (l.set m d).getD m 0 = d := by simp [List.getD, h]
 have e2 : (l.set m d).drop (m + 1) = l.drop (m + 1) := by rw [List.drop_set_of_lt (by omega)]
 rw [e1, e2]
theorem down_step {C x P vz vx T : Nat} (h : vx = P * vz + C) (hT : T = C * B32 + x) : x + B32 * vx = P * (T / P + B32 * vz) + T % P := by
 have h1 := Nat.mod_add_div T P
 rw [h, Nat.mul_add, Nat.mul_add]
 have e : B32 * (P * vz) = P * (B32 * vz) := by rw [Nat.mul_left_comm]
 have e2 : B32 * C = C * B32 := Nat.mul_comm _ _
 omega
def DnRel (g s : Nat) (xs : List Nat) (w : World) (iv cv : Value) (wr : World) : Prop :=
 ∃ (k C : Nat) (zs : List Nat), iv = .int .i64 ((k : Int) - 1) ∧ k ≤ xs.length ∧ cv = .int .u64 (C : Int) ∧ C < 2 ^ s ∧ zs.length = xs.length ∧ Hid (okN zs) ∧ Hid (val (xs.drop k) = 2 ^ s * val (zs.drop k) + C) ∧ Hid (OwnU wr w.heap.size (.slice (some ⟨g, 0, none⟩) xs.length xs.length) zs) ∧ Hid (Below w.heap.size w wr)
def DnRet (s x : Nat) (w : World) (e : Ending) (w' : World) : Prop := ∃ A c, e = .returned (.tuple #[.int .u32 ((x % 2 ^ s : Nat) : Int), .slice A (natL (x / 2 ^ s)).length c]) ∧ RdU w' w'.heap.size A (natL (x / 2 ^ s)) ∧ Below w.heap.size w w'
set_option maxHeartbeats 2000000 in
theorem down_any (A : Option Addr) (c B s : Nat) (xs : List Nat) (w : World) (hx : RdU w B A xs) (hB : B ≤ w.heap.size) (hok : okN xs) (hl : xs.length ≤ 4000000) (hs : s ≤ 31) :
  Calls Tryz.prog 252 #[.slice A xs.length c, .int .i64 (s : Int)] w (DnRet s (val xs) w) := by
 have hmk := run_make_row' (P := Tryz.prog) 145 221 (.int .u32 0) 4 Tryz.underlying145 infoU rfl .i64 .i64 xs.length (by omega) (by omega)
 have HX := J hx
 have HOk := J hok
 have hz0 : okN (zerosU xs.length) := by intro y hy; unfold zerosU at hy; rw [(List.mem_replicate.1 hy).2]; decide
 have H0 : Hid (DnRel w.heap.size s xs w (.int .i64 ((xs.length : Int) - 1)) (.int .u64 0) (w.alloc (.cells (madeCells #[.int .u32 0] xs.length) 221))) :=
  J ⟨xs.length, 0, zerosU xs.length, rfl, Nat.le_refl _, rfl, Nat.two_pow_pos s, by simp [zerosU], J hz0, J (by rw [List.drop_of_length_le (Nat.le_refl _), List.drop_of_length_le (by simp [zerosU])]; simp [val]), J (made_own w _ (by omega)), J ((Below.refl _ _).alloc (Nat.le_refl _) _)⟩
 clear hx hok hz0
 go_enter Tryz.func252, Tryz.ntmps252
 go_wp2
 clear hmk
 go_loopw [8, 7] (fun iv cv wr => DnRel w.heap.size s xs w iv cv wr) (fun iv _ _ => (intOf iv + 1).toNat)
 case atStart => exact H0.out
 case round =>
  obtain ⟨k, C, zs, rfl, hk, rfl, hC, hzl, hok, hv, HO, HBl⟩ := hrel
  clear H0
  obtain ⟨P, hPe⟩ : ∃ P, P = 2 ^ s := ⟨_, rfl⟩
  have hP31 : P ≤ 2 ^ 31 := by rw [hPe]; exact Nat.pow_le_pow_right (by decide) hs
  have hP0 : 0 < P := by rw [hPe]; exact Nat.two_pow_pos s
  by_cases hpos : 0 < k
  ·obtain ⟨m, rfl⟩ : ∃ m, k = m + 1 := ⟨k - 1, by omega⟩
   have hx1 : xs.getD m 0 < B32 := okN_at HOk.out m
   obtain ⟨bb, off, rfl, _, hc⟩ := (HX.out.below HBl.out hB) (by omega)
   have gx := hc m (by omega)
   clear hc
   obtain ⟨gc, gf⟩ := HO.out.cell hzl m (by omega)
   rw [← hPe] at hC
   obtain ⟨T, hT⟩ : ∃ T, T = C * B32 + xs.getD m 0 := ⟨_, rfl⟩
   have hTlt : T < P * B32 := by
    have h1 := Nat.mul_le_mul_right B32 (show C + 1 ≤ P from hC)
    rw [Nat.add_mul, Nat.one_mul] at h1
    omega
   have hTle : P * B32 ≤ 2 ^ 31 * B32 := Nat.mul_le_mul_right _ hP31
   have hQ : T / P < B32 := by rw [Nat.div_lt_iff_lt_mul hP0, Nat.mul_comm B32]; exact hTlt
   have hmod : T % P < P := Nat.mod_lt _ hP0
   have HN : Hid (DnRel w.heap.size s xs w (.int .i64 ((m : Int) - 1)) (.int .u64 ((T % P : Nat) : Int)) (wr.setCell ⟨w.heap.size, m, none⟩ (.int .u32 ((T / P : Nat) : Int)))) := J (by
    obtain ⟨o1, _⟩ := HO.out.set hzl m (T / P)
    refine ⟨m, T % P, zs.set m (T / P), rfl, by omega, rfl, by rw [← hPe]; exact hmod, by rw [List.length_set]; exact hzl, J (okN_setw hok.out hQ), J ?_, J o1, J (HBl.out.setCell (Nat.le_refl _) _)⟩
    rw [drop_cons (by omega), drop_setw (by omega), val, val, ← hPe]
    refine down_step ?_ hT
    rw [hPe]; exact hv.out)
   have e1 : (((m + 1 : Nat) : Int) - 1) = (m : Int) := by omega
   rw [e1]
   have hpw : (2 : Int) ^ s = (P : Int) := by rw [hPe]; simp
   unfold B32 at hT hx1 hQ hTle
   have hTe : C * 4294967296 ||| xs.getD m 0 = T := by
    have e := Nat.shiftLeft_add_eq_or_of_lt (show xs.getD m 0 < 2 ^ 32 by omega) C
    rw [Nat.shiftLeft_eq, show (2 : Nat) ^ 32 = 4294967296 from rfl] at e
    rw [← e, hT]
   have hT63 : T < 9223372036854775808 := by unfold B32 at hTlt; omega
   have hbo : bits .or .u64 ((C : Int) * 4294967296) ((xs.getD m 0 : Nat) : Int) = (T : Int) := by
    have h := u64_or (C * 4294967296) (xs.getD m 0) (by omega) (by omega)
    rw [hTe, show ((C * 4294967296 : Nat) : Int) = (C : Int) * 4294967296 by omega] at h
    exact h
   have hand : bits .and .u64 (T : Int) ((P : Int) - 1) = ((T % P : Nat) : Int) := by
    have h := u64_and_nat T (P - 1) (by omega) (by omega)
    rw [show ((P - 1 : Nat) : Int) = (P : Int) - 1 by omega] at h
    rw [h, hPe, Nat.and_two_pow_sub_one_eq_mod]
   have hdiv : (T : Int) / (P : Int) = ((T / P : Nat) : Int) := by simp
   clear e1 hTe hTlt hTle hPe
   generalize hQe : T / P = Q at *
   generalize hRe : T % P = R at *
   generalize xs.getD m 0 = x at *
   generalize zs.getD m 0 = z at *
   clear hQe hRe hT
   go_wp2
   go_roundw
   case rel => exact HN.out
   case measure => simp [intOf]
  ·obtain rfl : k = 0 := by omega
   have hv2 := hv.out
   rw [List.drop_zero, List.drop_zero, ← hPe] at hv2
   rw [← hPe] at hC
   have hq : val zs = val xs / P := by rw [hv2, Nat.mul_add_div hP0, Nat.div_eq_of_lt hC, Nat.add_zero]
   have hr : C = val xs % P := by rw [hv2, Nat.mul_add_mod, Nat.mod_eq_of_lt hC]
   have hkk := natL_take hok.out
   have HT := J (trim_any (some ⟨w.heap.size, 0, none⟩) xs.length wr.heap.size zs wr HO.out.rd hok.out (by omega) (by omega) (by omega))
   rw [hzl] at HT
   have HR : Hid (DnRet s (val xs) w (.returned (.tuple #[.int .u32 (C : Int), .slice (some ⟨w.heap.size, 0, none⟩) (natL (val zs)).length xs.length])) wr) := J (by
    refine ⟨some ⟨w.heap.size, 0, none⟩, xs.length, by rw [← hPe, hr, hq], ?_, HBl.out⟩
    rw [← hPe, ← hq]
    have := RdU.take HO.out.rd hkk.2
    rwa [hkk.1] at this)
   have hC32 : C < 4294967296 := by omega
   clear hv2 hq hr hkk hPe hP31 hP0
   go_wp2_with fail
   refine HT.out.mono ?_
   rintro e w1 ⟨rfl, rfl⟩
   go_wp2
   go_ret2
   exact HR.out
end Nat32
end Go.Proofs.YtgipnbeipfhekaaGreatDoor
namespace Go.Proofs
open Go.Shelf
def YtgipnbeipfhekaaGreatDoor.lays133_ren : Go.Shelf.Ren := ⟨fun | 133 => 249 | 128 => 260 | n => n, fun | 51 => 221 | 3 => 3 | 4 => 4 | 46 => 118 | 5 => 5 | 9 => 9 | n => n, fun | n => n⟩
theorem YtgipnbeipfhekaaGreatDoor.lays133 : Go.Proofs.Lays.n133 Tryz.prog YtgipnbeipfhekaaGreatDoor.lays133_ren := {
 mixed := by kernel_rfl
 f128 := Tryz.func260.trans (congrArg some (by kernel_rfl))
 f133 := Tryz.func249.trans (congrArg some (by kernel_rfl))
 t3 := Tryz.underlying3
 a3 := Tryz.isAgg3
 z3 := Tryz.sizeOf3
 v3 := Tryz.zeroValue3
 t4 := Tryz.underlying4
 a4 := Tryz.isAgg4
 z4 := Tryz.sizeOf4
 v4 := Tryz.zeroValue4
 t5 := Tryz.underlying5
 a5 := Tryz.isAgg5
 z5 := Tryz.sizeOf5
 v5 := Tryz.zeroValue5
 t9 := Tryz.underlying9
 a9 := Tryz.isAgg9
 z9 := Tryz.sizeOf9
 v9 := Tryz.zeroValue9
 t46 := Tryz.underlying118
 a46 := Tryz.isAgg118
 z46 := Tryz.sizeOf118
 v46 := Tryz.zeroValue118
 t51 := Tryz.underlying221
 a51 := Tryz.isAgg221
 z51 := Tryz.sizeOf221
 v51 := Tryz.zeroValue221 }
end Go.Proofs
namespace Go.Proofs.YtgipnbeipfhekaaGreatDoor
namespace Nat32
open Go.RowKit Base Mem NatM
def ClzRet (x : Nat) (w : World) (e : Ending) (w' : World) : Prop := ∃ s : Nat, e = .returned (.int .i64 (s : Int)) ∧ s ≤ 31 ∧ x * 2 ^ s < B32 ∧ w = w'
theorem clz_any (x : Nat) (h0 : 0 < x) (h1 : x < B32) (w : World) : Calls Tryz.prog 249 #[.int .u32 (x : Int)] w (ClzRet x w) := by
 unfold B32 at h1
 refine (Go.Proofs.Any.bits_LeadingZeros32 YtgipnbeipfhekaaGreatDoor.lays133 (x : Int) w (by omega) (by omega)).mono ?_
 rintro e w' ⟨rfl, rfl⟩
 have hb := Lib.bitLenAux_bounds 64 x (by omega) (by omega)
 have hl := Lib.bitLen_le x 32 (by omega) (by omega)
 have e0 : Lib.bitLenAux 64 x = Lib.bitLen x := rfl
 rw [e0] at hb
 have et : (x : Int).toNat = x := Int.toNat_natCast x
 rw [et]
 refine ⟨32 - Lib.bitLen x, ?_, by omega, ?_, rfl⟩
 ·rw [Int.ofNat_sub hl]; rfl
 ·have h := Nat.mul_lt_mul_of_pos_right hb.2.2 (Nat.two_pow_pos (32 - Lib.bitLen x))
  rw [← Nat.pow_add, show Lib.bitLen x + (32 - Lib.bitLen x) = 32 by omega] at h
  exact h
theorem us_one (xs : List Nat) : ∀ u ∈ us xs, u.oneCell' = true := by
 intro u hu
 obtain ⟨x, _, rfl⟩ := List.mem_map.1 hu
 rfl
theorem rdu_news {w : World} {B : Nat} {A : Option Addr} {xs : List Nat} (h : RdU w B A xs) {ad : Addr} (e : A = some ad) : ∀ j u, (us xs)[j]? = some u → w.cell? (ad.add j) = some u := fun j u hj => by
 have hl : j < xs.length := by
  have := (List.getElem?_eq_some_iff.1 hj).1
  rwa [us_len] at this
 obtain ⟨b, off, e2, _, hc⟩ := h (by omega)
 rw [e] at e2
 injection e2 with e2
 subst e2
 rw [us_get xs j hl] at hj
 injection hj with hj
 rw [← hj, Addr.add_lit]
 exact hc j hl
def CopyRet (xs : List Nat) (w : World) (e : Ending) (w' : World) : Prop := ∃ A c, e = .returned (.slice A xs.length c) ∧ xs.length ≤ c ∧ c ≤ 9223372036854775807 ∧ RdU w' w'.heap.size A xs ∧ Below w.heap.size w w'
theorem copy_ret {w w' : World} {v : Value} {xs : List Nat} {o : Obj} (hown : w'.ownsRow w.heap.size 221 1 v xs.length (us xs)) (hg : (w.alloc o).grownBy w' (some w.heap.size)) : CopyRet xs w (.returned v) w' := by
 have h2 : OwnU w' w.heap.size v xs := hown
 have hB := ((Below.refl w.heap.size w).alloc (Nat.le_refl _) o).trans (grown_below hg (fun g e => by injection e with e; omega) (by simp))
 rcases hown.2 with ⟨rfl, h0⟩ | ⟨g, cap, cur, rfl, _, _, h3, h4, _⟩
 ·exact ⟨none, 0, by rw [h0], by omega, by omega, fun hp => by omega, hB⟩
 ·exact ⟨_, cap, rfl, h3, by simpa [maxLen] using h4, h2.rd, hB⟩
set_option maxHeartbeats 1000000 in
theorem clone_u (A : Option Addr) (c B : Nat) (xs : List Nat) (w : World) (hx : RdU w B A xs) (hB : B ≤ w.heap.size) (hl : xs.length ≤ 10000000) (hpos : 0 < xs.length) :
  Calls Tryz.prog 251 #[.slice A xs.length c] w (CopyRet xs w) := by
 obtain ⟨i0, hi, hz0, hz1, hz2⟩ := info_parts infoU
 have q22 : ∀ (w : World) (a : Option Addr) (n c n' c' : Nat), (binOp .eql 145 (.slice a n c) (.slice none n' c')).run Tryz.prog w = .ok (.bool a.isNone) w := fun w a n c n' c' => Lib.run_eql_slice_nil w _ _ a n c n' c' Tryz.underlying145
 obtain ⟨b, off, rfl, _, _⟩ := hx hpos
 have HN := J (rdu_news (hx.below ((Below.refl w.heap.size w).alloc (Nat.le_refl _) (.cells #[] 221)) hB) rfl)
 have HW := J (World.ownsRow_made (base := w.heap.size) (e := 221) (size := 1) w #[] 0 (Nat.le_refl _) (Nat.zero_le _) rfl)
 clear hx
 go_enter Tryz.func251, Tryz.ntmps251
 go_wp2_with (at_builtin; refine wpList_append_own_at _ rfl (.tmp 5) (.tmp 6) 145 rfl w.heap.size 221 i0 (.int .u32 0) 1 4 Tryz.underlying145 hi hz0 hz1 hz2 rfl (by decide) _ _ _ rfl HW.out ⟨b, off, none⟩ xs.length c (us xs) rfl ?p1 ?p2 ?p3 ?p4 ?p5 ?p6 ?_)
 try case p1 => simp [us_len]
 try case p2 => exact HN.out
 try case p3 => exact us_one xs
 try case p4 => first | (simp only [maxLen]; omega) | omega
 try case p5 => omega
 try case p6 => first | (simp only [World.size_alloc]; omega) | omega
 intro v' w2 hown' hg' _ he
 have HN2 := J (copy_ret (by simpa using hown') hg')
 clear hown' hg' he
 go_wp2
 go_ret
 exact HN2.out
def RowU (w : World) (g : Nat) (xs : List Nat) : Prop := w.heap[g]? = some (.cells (us xs).toArray 221 (0, 0))
theorem OwnU.row {w : World} {B g n : Nat} {xs : List Nat} (h : OwnU w B (.slice (some ⟨g, 0, none⟩) n n) xs) (hn : xs.length = n) : RowU w g xs := by
 have h' : w.ownsRow B 221 1 (.slice (some ⟨g, 0, none⟩) n n) xs.length (us xs) := h
 rcases h'.2 with ⟨h0, _⟩ | ⟨g', cap, cur, hv, _, hg, _, _, hs, ht⟩
 ·cases h0
 ·injection hv with h1 h2 h3
  injection h1 with h1
  injection h1 with h1
  subst h1 h3
  rw [Nat.mul_one] at hs ht
  rw [List.take_of_length_le (by rw [Array.length_toList]; omega)] at ht
  unfold RowU
  rw [hg, ← ht]
theorem RowU.lt {w : World} {g : Nat} {xs : List Nat} (h : RowU w g xs) : g < w.heap.size := (Array.getElem?_eq_some_iff.1 h).1
theorem RowU.below {w w' : World} {B g : Nat} {xs : List Nat} (h : RowU w g xs) (hb : Below B w w') (hg : g < B) : RowU w' g xs := (hb.block g hg).trans h
theorem RowU.cell {w : World} {g : Nat} {xs : List Nat} (h : RowU w g xs) (i : Nat) (hi : i < xs.length) : w.cell? ⟨g, i, none⟩ = some (.int .u32 ((xs.getD i 0 : Nat) : Int)) ∧ w.frozen? ⟨g, i, none⟩ = false := by
 have h' : w.heap[g]? = some (.cells (us xs).toArray 221 (0, 0)) := h
 have hg := us_get xs i hi
 refine ⟨?_, ?_⟩
 ·simp only [World.cell?, h']
  simpa using hg
 ·simp [World.frozen?, h']
theorem RowU.rd {w : World} {g B : Nat} {xs : List Nat} (h : RowU w g xs) (hg : g < B) (k n : Nat) (hn : k + n ≤ xs.length) : RdU w B (some ⟨g, k, none⟩) ((xs.drop k).take n) := fun h0 => by
 have hl : ((xs.drop k).take n).length = n := by simp; omega
 refine ⟨g, k, rfl, hg, fun i hi => ?_⟩
 rw [hl] at hi
 rw [(h.cell (k + i) (by omega)).1]
 congr 2
 simp [List.getD, hi]
theorem RowU.set {w : World} {g : Nat} {xs : List Nat} (h : RowU w g xs) (i x : Nat) : RowU (w.setCell ⟨g, i, none⟩ (.int .u32 (x : Int))) g (xs.set i x) := by
 have h' : w.heap[g]? = some (.cells (us xs).toArray 221 (0, 0)) := h
 unfold RowU
 rw [← us_set]
 simp [World.setCell, Array.getElem?_modify, h']
theorem RowU.clear {g : Nat} : ∀ (n k : Nat) {w : World} {xs : List Nat}, RowU w g xs → k + n ≤ xs.length → RowU (w.setCells g k (List.replicate n (.int .u32 0))) g (splice xs k (List.replicate n 0))
 | 0, k, w, xs, h, hk => by simpa [splice, World.setCells] using h
 | n + 1, k, w, xs, h, hk => by
  have h1 := h.set k 0
  have h2 := RowU.clear n (k + 1) h1 (by rw [List.length_set]; omega)
  rw [List.replicate_succ, World.setCells]
  have e : splice (xs.set k 0) (k + 1) (List.replicate n 0) = splice xs k (List.replicate (n + 1) 0) := by
   simp only [splice, List.length_replicate]
   rw [List.take_succ_eq_append_getElem (by rw [List.length_set]; omega), List.take_set, List.set_eq_of_length_le (by rw [List.length_take]; omega), List.drop_set_of_lt (by omega), List.append_assoc]
   simp [List.replicate_succ, Nat.add_assoc, Nat.add_comm 1 n]
  rw [← e]
  exact h2
end Nat32
namespace Nat32
open Go.RowKit Base Mem NatM
theorem val_split {xs : List Nat} {k : Nat} (h : k ≤ xs.length) : val xs = val (xs.take k) + B32 ^ k * val (xs.drop k) := by
 have e := val_append (xs.take k) (xs.drop k)
 rw [List.take_append_drop, List.length_take, Nat.min_eq_left h] at e
 exact e
theorem val_drop_succ {xs : List Nat} {k : Nat} (h : k < xs.length) : val (xs.drop k) = xs.getD k 0 + B32 * val (xs.drop (k + 1)) := by rw [drop_cons h, val]
theorem val_zeros : ∀ n : Nat, val (List.replicate n 0) = 0
 | 0 => rfl
 | n + 1 => by rw [List.replicate_succ, val, val_zeros n]; rfl
theorem okN_drop {xs : List Nat} (h : okN xs) (k : Nat) : okN (xs.drop k) := fun y hy => h y (List.mem_of_mem_drop hy)
theorem okN_take' {xs : List Nat} (h : okN xs) (k : Nat) : okN (xs.take k) := fun y hy => h y (List.mem_of_mem_take hy)
theorem okN_zeros (n : Nat) : okN (List.replicate n 0) := fun y hy => by rw [(List.mem_replicate.1 hy).2]; decide
theorem okN_append {xs ys : List Nat} (h : okN xs) (h' : okN ys) : okN (xs ++ ys) := fun y hy => by
 rcases List.mem_append.1 hy with hy | hy
 ·exact h y hy
 ·exact h' y hy
def relay (rs : List Nat) (k n : Nat) (ls : List Nat) : List Nat := splice (splice rs k (List.replicate n 0)) k ls
theorem relay_eq {rs ls : List Nat} {k n : Nat} (hk : k + n ≤ rs.length) (hl : ls.length ≤ n) : relay rs k n ls = rs.take k ++ (ls ++ (List.replicate (n - ls.length) 0 ++ rs.drop (k + n))) := by
 have h1 : (rs.take k).length = k := by rw [List.length_take]; omega
 unfold relay splice
 rw [List.length_replicate]
 have e1 : (rs.take k ++ (List.replicate n 0 ++ rs.drop (k + n))).take k = rs.take k := by
  rw [List.take_append_of_le_length (by omega), List.take_of_length_le (by omega)]
 have e2 : (rs.take k ++ (List.replicate n 0 ++ rs.drop (k + n))).drop (k + ls.length) = List.replicate (n - ls.length) 0 ++ rs.drop (k + n) := by
  rw [List.drop_append, List.drop_of_length_le (by omega), List.nil_append, h1, show k + ls.length - k = ls.length by omega, List.drop_append_of_le_length (by rw [List.length_replicate]; exact hl), List.drop_replicate]
 rw [e1, e2]
theorem relay_len {rs ls : List Nat} {k n : Nat} (hk : k + n ≤ rs.length) (hl : ls.length ≤ n) : (relay rs k n ls).length = rs.length := by
 rw [relay_eq hk hl]
 simp
 omega
theorem relay_ok {rs ls : List Nat} {k n : Nat} (hk : k + n ≤ rs.length) (hl : ls.length ≤ n) (h : okN rs) (h' : okN ls) : okN (relay rs k n ls) := by
 rw [relay_eq hk hl]
 exact okN_append (okN_take' h k) (okN_append h' (okN_append (okN_zeros _) (okN_drop h _)))
theorem relay_take {rs ls : List Nat} {k n : Nat} (hk : k + n ≤ rs.length) (hl : ls.length ≤ n) : (relay rs k n ls).take k = rs.take k := by
 have h1 : (rs.take k).length = k := by rw [List.length_take]; omega
 rw [relay_eq hk hl, List.take_append_of_le_length (by omega), List.take_of_length_le (by omega)]
theorem relay_val {rs ls : List Nat} {k n : Nat} (hk : k + n ≤ rs.length) (hl : ls.length ≤ n) (h0 : val (rs.drop (k + n)) = 0) : val ((relay rs k n ls).drop k) = val ls := by
 have h1 : (rs.take k).length = k := by rw [List.length_take]; omega
 rw [relay_eq hk hl, List.drop_append, List.drop_of_length_le (by omega), List.nil_append, h1, Nat.sub_self, List.drop_zero, val_append, val_append, val_zeros, h0]
 simp
def DivInv (A D K : Nat) (rs qs : List Nat) : Prop := val rs + B32 ^ K * (D * val (qs.drop K)) = A ∧ val (rs.drop K) < D
theorem DivInv.start {A D K n : Nat} {rs : List Nat} (h : val rs = A) (hd : val (rs.drop K) < D) (hn : n = K) : DivInv A D K rs (List.replicate n 0) := by
 subst hn
 refine ⟨?_, hd⟩
 rw [List.drop_of_length_le (by simp), val]
 omega
theorem DivInv.win {A D k n : Nat} {rs qs : List Nat} (h : DivInv A D (k + 1) rs qs) (hok : okN rs) (hk : k + (n + 2) ≤ rs.length) (hD : D < B32 ^ (n + 1)) :
  val ((rs.drop k).take (n + 2)) = val (rs.drop k) ∧ val (rs.drop k) < B32 * D ∧ val (rs.drop (k + (n + 2))) = 0 := by
 have h1 := val_drop_succ (show k < rs.length by omega)
 have h2 : val (rs.drop k) < B32 * D := by
  have h3 : val (rs.drop (k + 1)) + 1 ≤ D := h.2
  have h4 := Nat.mul_le_mul_left B32 h3
  have h5 := okN_at hok k
  rw [Nat.mul_add] at h4
  omega
 have h3 := val_split (xs := rs.drop k) (k := n + 2) (by rw [List.length_drop]; omega)
 rw [List.drop_drop] at h3
 have h4 : B32 * D < B32 ^ (n + 2) := by
  rw [Nat.pow_succ, Nat.mul_comm (B32 ^ (n + 1))]
  exact Nat.mul_lt_mul_of_pos_left hD (by decide)
 have h5 : val (rs.drop (k + (n + 2))) = 0 := by
  rcases Nat.eq_zero_or_pos (val (rs.drop (k + (n + 2)))) with h6 | h6
  ·exact h6
  ·have := Nat.le_mul_of_pos_right (B32 ^ (n + 2)) h6
   omega
 rw [h5, Nat.mul_zero, Nat.add_zero] at h3
 exact ⟨h3.symm, h2, h5⟩
theorem DivInv.next {A D k n q : Nat} {rs qs : List Nat} (h : DivInv A D (k + 1) rs qs) (hk : k + (n + 2) ≤ rs.length) (hkq : k < qs.length) (hD : D < B32 ^ (n + 1)) (h0 : val (rs.drop (k + (n + 2))) = 0) (hq : q * D ≤ val (rs.drop k)) (hlt : val (rs.drop k) - q * D < D) :
  DivInv A D k (relay rs k (n + 2) (natL (val (rs.drop k) - q * D))) (qs.set k q) := by
 have hl : (natL (val (rs.drop k) - q * D)).length ≤ n + 2 := natL_len_le (Nat.lt_trans hlt (Nat.lt_of_lt_of_le hD (Nat.pow_le_pow_right (by decide) (by omega))))
 have e1 := relay_val hk hl h0
 rw [natL_val] at e1
 refine ⟨?_, by rw [e1]; exact hlt⟩
 have e2 := val_split (xs := relay rs k (n + 2) (natL (val (rs.drop k) - q * D))) (k := k) (by rw [relay_len hk hl]; omega)
 have e3 := val_split (xs := rs) (k := k) (by omega)
 have e4 := h.1
 rw [e2, e1, relay_take hk hl, drop_setw hkq, val]
 rw [e3] at e4
 generalize val (rs.drop k) = W at *
 generalize val (rs.take k) = T at *
 generalize val (qs.drop (k + 1)) = V at *
 obtain ⟨L, rfl⟩ : ∃ L, W = L + q * D := ⟨W - q * D, by omega⟩
 rw [Nat.add_sub_cancel]
 rw [← e4, Nat.pow_succ]
 generalize B32 ^ k = P
 rw [Nat.mul_add, Nat.mul_add, Nat.mul_add]
 have f1 : P * (D * q) = P * (q * D) := by rw [Nat.mul_comm D q]
 have f2 : P * (D * (B32 * V)) = P * B32 * (D * V) := by rw [Nat.mul_assoc, Nat.mul_left_comm D B32 V]
 omega
theorem DivInv.done {A D : Nat} {rs qs : List Nat} (h : DivInv A D 0 rs qs) : val qs = A / D ∧ val rs = A % D := by
 obtain ⟨h1, h2⟩ := h
 rw [List.drop_zero] at h1 h2
 rw [Nat.pow_zero, Nat.one_mul] at h1
 rw [← h1]
 have hD : 0 < D := by omega
 refine ⟨?_, ?_⟩
 ·rw [Nat.add_mul_div_left _ _ hD, Nat.div_eq_of_lt h2, Nat.zero_add]
 ·rw [Nat.add_mul_mod_self_left, Nat.mod_eq_of_lt h2]
theorem try_high {D n t top : Nat} {L : List Nat} (hok : okN L) (ht : (natL D).getD n 0 = t) (hlen : (natL D).length = n + 1) (htop : L.getD (n + 1) 0 * B32 + L.getD n 0 = top) (hW : val (L.take (n + 2)) < B32 * D) :
  val (L.take (n + 2)) / D ≤ min (top / t) 4294967295 := by
 have t0 : t ≠ 0 := by rw [← ht]; exact (natL_canon D).2 n hlen
 have d1 : B32 ^ n * t ≤ D := by
  have h1 := val_take_any (natL D) n
  rw [List.take_of_length_le (by omega), natL_val, ht] at h1
  omega
 have hD : 0 < D := by
  have := Nat.mul_pos (Nat.pow_pos (n := n) (show 0 < B32 by decide)) (Nat.pos_of_ne_zero t0)
  omega
 have w1 : val (L.take (n + 2)) < B32 ^ n * (top + 1) := by
  have h1 := val_take_any L (n + 1)
  have h2 := val_take_any L n
  have h3 := val_lt _ (okN_take' hok n)
  have h4 : B32 ^ (L.take n).length ≤ B32 ^ n := Nat.pow_le_pow_right (by decide) (by rw [List.length_take]; omega)
  rw [h1, h2, ← htop, Nat.pow_succ, Nat.mul_add, Nat.mul_add, Nat.mul_comm (L.getD (n + 1) 0) B32, ← Nat.mul_assoc]
  omega
 have hq : val (L.take (n + 2)) / D * D ≤ val (L.take (n + 2)) := Nat.div_mul_le_self _ _
 have hb : val (L.take (n + 2)) / D < B32 := by rw [Nat.div_lt_iff_lt_mul hD]; exact hW
 generalize hqe : val (L.take (n + 2)) / D = q at *
 refine Nat.le_min.2 ⟨?_, by unfold B32 at hb; omega⟩
 rw [Nat.le_div_iff_mul_le (Nat.pos_of_ne_zero t0)]
 have h5 : B32 ^ n * (q * t) ≤ q * D := by
  rw [Nat.mul_left_comm]
  exact Nat.mul_le_mul_left _ d1
 have h6 : B32 ^ n * (q * t) < B32 ^ n * (top + 1) := by omega
 have := Nat.lt_of_mul_lt_mul_left h6
 omega
theorem up_len {b s n : Nat} (hlen : (natL b).length = n + 1) (hs : s ≤ 31) (ht : (natL b).getD n 0 * 2 ^ s < B32) : (natL (b * 2 ^ s)).length = n + 1 ∧ b * 2 ^ s < B32 ^ (n + 1) ∧ B32 ^ n * 2 ^ s ≤ b * 2 ^ s := by
 have h1 := val_take_any (natL b) n
 rw [List.take_of_length_le (by omega), natL_val] at h1
 have h2 := val_lt _ (okN_take' (natL_ok b) n)
 rw [List.length_take, hlen, Nat.min_eq_left (by omega)] at h2
 have t0 := (natL_canon b).2 n hlen
 generalize (natL b).getD n 0 = t at *
 have hlo : B32 ^ n ≤ b := by
  have := Nat.le_mul_of_pos_right (B32 ^ n) (Nat.pos_of_ne_zero t0)
  omega
 have hP : 0 < 2 ^ s := Nat.two_pow_pos s
 have hBs : B32 = 2 ^ (32 - s) * 2 ^ s := by rw [← Nat.pow_add, show 32 - s + s = 32 by omega]; rfl
 have ht1 : (t + 1) * 2 ^ s ≤ B32 := by
  rw [hBs] at ht ⊢
  have := Nat.lt_of_mul_lt_mul_right ht
  exact Nat.mul_le_mul_right _ this
 have hhi : b * 2 ^ s < B32 ^ (n + 1) := by
  have h3 : b + 1 ≤ B32 ^ n * (t + 1) := by rw [Nat.mul_add]; omega
  have h4 := Nat.mul_le_mul_right (2 ^ s) h3
  rw [Nat.add_mul, Nat.mul_assoc] at h4
  have h5 := Nat.mul_le_mul_left (B32 ^ n) ht1
  rw [Nat.pow_succ]
  omega
 have hlo2 := Nat.mul_le_mul_right (2 ^ s) hlo
 refine ⟨?_, hhi, hlo2⟩
 refine Nat.le_antisymm (natL_len_le hhi) ?_
 have h7 := val_lt _ (natL_ok (b * 2 ^ s))
 rw [natL_val] at h7
 have h8 : B32 ^ n ≤ b * 2 ^ s := Nat.le_trans hlo (Nat.le_mul_of_pos_right _ hP)
 rcases Nat.lt_or_ge (natL (b * 2 ^ s)).length (n + 1) with h9 | h9
 ·have := Nat.pow_le_pow_right (show 0 < B32 by decide) (show (natL (b * 2 ^ s)).length ≤ n by omega)
  omega
 ·exact h9
theorem top_low {a b s n : Nat} {rs : List Nat} (hlen : (natL b).length = n + 1) (hb : B32 ^ n * 2 ^ s ≤ b * 2 ^ s) (hr : rs.length = (natL a).length + 1) (hv : val rs = a * 2 ^ s) (hn : n ≤ (natL a).length) : val (rs.drop ((natL a).length - n)) < b * 2 ^ s := by
 have h1 := val_split (xs := rs) (k := (natL a).length - n) (by omega)
 have h2 := val_lt _ (natL_ok a)
 rw [natL_val] at h2
 have h3 : a * 2 ^ s < B32 ^ (natL a).length * 2 ^ s := Nat.mul_lt_mul_of_pos_right h2 (Nat.two_pow_pos s)
 have h4 : B32 ^ (natL a).length = B32 ^ ((natL a).length - n) * B32 ^ n := by rw [← Nat.pow_add, Nat.sub_add_cancel hn]
 rw [h4, Nat.mul_assoc] at h3
 have h5 : B32 ^ ((natL a).length - n) * val (rs.drop ((natL a).length - n)) < B32 ^ ((natL a).length - n) * (B32 ^ n * 2 ^ s) := by omega
 have := Nat.lt_of_mul_lt_mul_left h5
 omega
end Nat32
end Go.Proofs.YtgipnbeipfhekaaGreatDoor

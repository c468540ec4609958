/- The program's naturals: differences. -/
import Derived.Test.YtgipnbeipfhekaaGreatDoorMgFnL07
import Derived.Test.YtgipnbeipfhekaaGreatDoorMgFnL06
import Derived.Test.YtgipnbeipfhekaaGreatDoorMgFnL05
import Derived.Test.YtgipnbeipfhekaaGreatDoorMgFnL01
import Derived.Laws.BitsAllLaws
import Derived.IntWalk
import Derived.Test.YtgipnbeipfhekaaGreatDoorMgFnL00
import Derived.StillTail
import Derived.Deep.RegionHeld
set_option linter.unusedVariables false
set_option linter.unusedSimpArgs false
set_option maxHeartbeats 4000000
namespace Go.Proofs.YtgipnbeipfhekaaGreatDoor
namespace Nat32
open Go.RowKit Base Mem NatM
theorem val_take_any (ys : List Nat) (i : Nat) : val (ys.take (i + 1)) = val (ys.take i) + B32 ^ i * ys.getD i 0 := by
 rcases Nat.lt_or_ge i ys.length with h | h
 ·exact val_take_succ ys i h
 ·rw [List.take_of_length_le (by omega), List.take_of_length_le h]
  have : ys.getD i 0 = 0 := by simp [List.getD, h]
  rw [this]; simp
theorem sub_step {i vo vy vx b b' D x y : Nat} (h : vo + vy = vx + B32 ^ i * b) (hD : D + y + b = x + B32 * b') :
  (vo + B32 ^ i * D) + (vy + B32 ^ i * y) = (vx + B32 ^ i * x) + B32 ^ (i + 1) * b' := by
 have e : B32 ^ i * D + B32 ^ i * y + B32 ^ i * b = B32 ^ i * x + B32 ^ (i + 1) * b' := by
  rw [← Nat.mul_add, ← Nat.mul_add, hD, Nat.mul_add, Nat.pow_succ, Nat.mul_assoc]
 omega
def SubRel (g : Nat) (xs ys : List Nat) (w : World) (iv bv : Value) (wr : World) : Prop :=
 ∃ (i b : Nat) (zs : List Nat), iv = .int .i64 (i : Int) ∧ i ≤ xs.length ∧ bv = .int .i64 (b : Int) ∧ b ≤ 1 ∧ zs.length = xs.length ∧ Hid (okN (zs.take i)) ∧ Hid (val (zs.take i) + val (ys.take i) = val (xs.take i) + B32 ^ i * b) ∧ Hid (OwnU wr w.heap.size (.slice (some ⟨g, 0, none⟩) xs.length xs.length) zs) ∧ Hid (Below w.heap.size w wr)
def NNew (x : Nat) (w : World) (e : Ending) (w' : World) : Prop := ∃ g c, e = .returned (.slice (some ⟨g, 0, none⟩) (natL x).length c) ∧ w.heap.size ≤ g ∧ RdU w' w'.heap.size (some ⟨g, 0, none⟩) (natL x) ∧ Below w.heap.size w w'
theorem NNew.ret {x : Nat} {w w' : World} {e : Ending} (h : NNew x w e w') : NRet x w e w' := by
 obtain ⟨g, c, e1, _, h1, h2⟩ := h
 exact ⟨_, c, e1, h1, h2⟩
theorem minus_new (A A' : Option Addr) (c c' B B' : Nat) (xs ys : List Nat) (w : World) (hx : RdU w B A xs) (hB : B ≤ w.heap.size) (hy : RdU w B' A' ys) (hB' : B' ≤ w.heap.size) (hok : okN xs) (hok' : okN ys) (hl : xs.length ≤ 4000000) (hl' : ys.length ≤ xs.length) (hle : val ys ≤ val xs) :
  Calls Tryz.prog 205 #[.slice A xs.length c, .slice A' ys.length c'] w (NNew (val xs - val ys) w) := by
 have hmk := run_make_row' (P := Tryz.prog) 145 221 (.int .u32 0) 4 Tryz.underlying145 infoU rfl .i64 .i64 xs.length (by omega) (by omega)
 have HX := J hx
 have HY := J hy
 have HOk := J hok
 have HOk' := J hok'
 have HLe := J hle
 have H0 : Hid (SubRel w.heap.size xs ys w (.int .i64 0) (.int .i64 0) (w.alloc (.cells (madeCells #[.int .u32 0] xs.length) 221))) :=
  J ⟨0, 0, zerosU xs.length, rfl, Nat.zero_le _, rfl, by omega, by simp [zerosU], J (by intro y hy; simp at hy), J (by simp [val]), J (made_own w _ (by omega)), J ((Below.refl _ _).alloc (Nat.le_refl _) _)⟩
 clear hx hy hok hok' hle
 go_enter Tryz.func205, Tryz.ntmps205
 go_wp2
 clear hmk
 go_loopw [14, 6] (fun iv bv wr => SubRel w.heap.size xs ys w iv bv wr) (fun iv _ _ => xs.length - (intOf iv).toNat)
 case atStart => exact H0.out
 case round =>
  obtain ⟨i, b, zs, rfl, hi, rfl, hb1, hzl, ho, hv, HO, HBl⟩ := hrel
  clear H0
  by_cases hlt : i < xs.length
  ·have hx1 : xs.getD i 0 < B32 := HOk.out _ (by simp [List.getD, hlt])
   obtain ⟨bb, off, rfl, _, hc⟩ := (HX.out.below HBl.out hB) (by omega)
   have gx := hc i hlt
   clear hc
   obtain ⟨gc, gf⟩ := HO.out.cell hzl i (by omega)
   have hvx := val_take_any xs i
   have hvy := val_take_any ys i
   have hy1 : ys.getD i 0 < B32 := by
    rcases Nat.lt_or_ge i ys.length with h | h
    ·exact HOk'.out _ (by simp [List.getD, h])
    ·rw [show ys.getD i 0 = 0 by simp [List.getD, h]]; decide
   have HN := J (fun (D b' : Nat) (hb' : b' ≤ 1) (hD : D < B32) (hDe : D + ys.getD i 0 + b = xs.getD i 0 + B32 * b') => (show SubRel w.heap.size xs ys w (.int .i64 ((i : Int) + 1)) (.int .i64 (b' : Int)) (wr.setCell ⟨w.heap.size, i, none⟩ (.int .u32 (D : Int))) from by
    obtain ⟨o1, _⟩ := HO.out.set hzl i D
    refine ⟨i + 1, b', zs.set i D, by go_num, hlt, rfl, hb', by rw [List.length_set]; exact hzl, J (okN_set (by omega) ho.out hD), J ?_, J o1, J (HBl.out.setCell (Nat.le_refl _) _)⟩
    rw [val_set zs i _ (by omega), hvx, hvy]
    exact sub_step hv.out hDe))
   clear hvx hvy
   unfold B32 at hx1 hy1
   unfold B32 at HN
   by_cases hiy : i < ys.length
   ·obtain ⟨bb2, off2, rfl, _, hc2⟩ := (HY.out.below HBl.out hB') (by omega)
    have gy := hc2 i hiy
    clear hc2
    generalize xs.getD i 0 = x at *
    generalize ys.getD i 0 = y at *
    generalize zs.getD i 0 = z at *
    by_cases hneg : (x : Int) - (b : Int) - (y : Int) < 0
    ·have HN2 := J (HN.out (x + 4294967296 - b - y) 1 (by omega) (by omega) (by omega))
     have e1 : ((x + 4294967296 - b - y : Nat) : Int) = (x : Int) - (b : Int) - (y : Int) + 4294967296 := by omega
     rw [e1] at HN2
     clear HN e1
     go_wp2
     go_roundw
     case rel => exact HN2.out
     case measure => simp [intOf]; omega
    ·have HN2 := J (HN.out (x - b - y) 0 (by omega) (by omega) (by omega))
     have e1 : ((x - b - y : Nat) : Int) = (x : Int) - (b : Int) - (y : Int) := by omega
     rw [e1] at HN2
     clear HN e1
     go_wp2
     go_roundw
     case rel => exact HN2.out
     case measure => simp [intOf]; omega
   ·have hy0 : ys.getD i 0 = 0 := by
     have : ys.length ≤ i := by omega
     simp [List.getD, this]
    rw [hy0] at HN
    clear hy0
    generalize xs.getD i 0 = x at *
    generalize zs.getD i 0 = z at *
    by_cases hneg : (x : Int) - (b : Int) < 0
    ·have HN2 := J (HN.out (x + 4294967296 - b) 1 (by omega) (by omega) (by omega))
     have e1 : ((x + 4294967296 - b : Nat) : Int) = (x : Int) - (b : Int) + 4294967296 := by omega
     rw [e1] at HN2
     clear HN e1
     go_wp2
     go_roundw
     case rel => exact HN2.out
     case measure => simp [intOf]; omega
    ·have HN2 := J (HN.out (x - b) 0 (by omega) (by omega) (by omega))
     have e1 : ((x - b : Nat) : Int) = (x : Int) - (b : Int) := by omega
     rw [e1] at HN2
     clear HN e1
     go_wp2
     go_roundw
     case rel => exact HN2.out
     case measure => simp [intOf]; omega
  ·obtain rfl : i = xs.length := by omega
   have hok2 : okN zs := by have := ho.out; rwa [List.take_of_length_le (by omega)] at this
   have hv2 : val zs = val xs - val ys := by
    have h1 := hv.out
    rw [List.take_of_length_le (by omega), List.take_of_length_le hl', List.take_of_length_le (Nat.le_refl _)] at h1
    have h2 := val_lt zs hok2
    rw [hzl] at h2
    have h3 := HLe.out
    have hb01 : b = 0 ∨ b = 1 := by omega
    rcases hb01 with rfl | rfl
    ·omega
    ·rw [Nat.mul_one] at h1; omega
   have hk := natL_take hok2
   have HT := J (trim_any (some ⟨w.heap.size, 0, none⟩) xs.length wr.heap.size zs wr HO.out.rd hok2 (by omega) (by omega) (by omega))
   rw [hzl] at HT
   have HR : Hid (NNew (val zs) w (.returned (.slice (some ⟨w.heap.size, 0, none⟩) (natL (val zs)).length xs.length)) wr) := J ⟨w.heap.size, xs.length, rfl, Nat.le_refl _, by have := HO.out.rd.take hk.2; rwa [hk.1] at this, HBl.out⟩
   rw [hv2] at HT HR
   clear hok2 hv2 hk
   go_wp2_with fail
   refine HT.out.mono ?_
   rintro e w1 ⟨rfl, rfl⟩
   go_wp2
   go_ret
   exact HR.out
theorem minus_any (A A' : Option Addr) (c c' B B' : Nat) (xs ys : List Nat) (w : World) (hx : RdU w B A xs) (hB : B ≤ w.heap.size) (hy : RdU w B' A' ys) (hB' : B' ≤ w.heap.size) (hok : okN xs) (hok' : okN ys) (hl : xs.length ≤ 4000000) (hl' : ys.length ≤ xs.length) (hle : val ys ≤ val xs) :
  Calls Tryz.prog 205 #[.slice A xs.length c, .slice A' ys.length c'] w (NRet (val xs - val ys) w) :=
 (minus_new A A' c c' B B' xs ys w hx hB hy hB' hok hok' hl hl' hle).mono fun _ _ h => h.ret
end Nat32
namespace Nat32
open Go.RowKit Base Mem NatM
theorem val_setw : ∀ (l : List Nat) (j d : Nat), j < l.length → val (l.set j d) + B32 ^ j * l.getD j 0 = val l + B32 ^ j * d
 | [], j, d, h => by simp at h
 | x :: l, 0, d, _ => by simp [val]; omega
 | x :: l, j + 1, d, h => by
  have ih := val_setw l j d (by simpa using h)
  rw [List.set_cons_succ, val, val, show (x :: l).getD (j + 1) 0 = l.getD j 0 by simp [List.getD]]
  have e : B32 ^ (j + 1) = B32 * B32 ^ j := by rw [Nat.pow_succ, Nat.mul_comm]
  rw [e, Nat.mul_assoc, Nat.mul_assoc]
  have := congrArg (B32 * ·) ih
  simp only [Nat.mul_add] at this
  omega
theorem okN_setw {l : List Nat} {j d : Nat} (h : okN l) (hd : d < B32) : okN (l.set j d) := fun y hy => by
 rcases List.mem_or_eq_of_mem_set hy with hy | rfl
 ·exact h y hy
 ·exact hd
theorem getD_set_ne {l : List Nat} {i j d : Nat} (h : i ≠ j) : (l.set i d).getD j 0 = l.getD j 0 := by
 simp [List.getD, h]
theorem okN_at {l : List Nat} (h : okN l) (j : Nat) : l.getD j 0 < B32 := by
 rcases Nat.lt_or_ge j l.length with hl | hl
 ·exact h _ (by simp [List.getD, hl])
 ·rw [show l.getD j 0 = 0 by simp [List.getD, hl]]; decide
theorem mul_step {i k vz vz' C V0 x y o vy S : Nat} (h : vz + B32 ^ (i + k) * C = V0 + x * B32 ^ i * vy) (hS : S = C + (o + x * y)) (hset : vz' + B32 ^ (i + k) * o = vz + B32 ^ (i + k) * (S % B32)) :
  vz' + B32 ^ (i + (k + 1)) * (S / B32) = V0 + x * B32 ^ i * (vy + B32 ^ k * y) := by
 have h1 := Nat.mod_add_div S B32
 have e1 : B32 ^ (i + (k + 1)) = B32 ^ (i + k) * B32 := by rw [← Nat.add_assoc, Nat.pow_succ]
 have e2 : B32 ^ (i + k) * S = B32 ^ (i + k) * (S % B32) + B32 ^ (i + k) * B32 * (S / B32) := by rw [Nat.mul_assoc, ← Nat.mul_add, h1]
 have e3 : B32 ^ (i + k) * S = B32 ^ (i + k) * C + (B32 ^ (i + k) * o + B32 ^ (i + k) * (x * y)) := by rw [hS, Nat.mul_add, Nat.mul_add]
 have e4 : x * B32 ^ i * (B32 ^ k * y) = B32 ^ (i + k) * (x * y) := by
  rw [Nat.pow_add]
  simp only [Nat.mul_assoc, Nat.mul_left_comm, Nat.mul_comm]
 rw [e1, Nat.mul_add, e4]
 omega
def MulRel (g n : Nat) (xs ys : List Nat) (w : World) (iv : Value) (wr : World) : Prop :=
 ∃ (i : Nat) (zs : List Nat), iv = .int .i64 (i : Int) ∧ i ≤ xs.length ∧ zs.length = n ∧ Hid (okN zs) ∧ Hid (∀ j, i + ys.length ≤ j → zs.getD j 0 = 0) ∧ Hid (val zs = val (xs.take i) * val ys) ∧ Hid (OwnU wr w.heap.size (.slice (some ⟨g, 0, none⟩) n n) zs) ∧ Hid (Below w.heap.size w wr)
def RowRel (g n i x V0 : Nat) (xs ys : List Nat) (w : World) (kv cv : Value) (wr : World) : Prop :=
 ∃ (k C : Nat) (zs : List Nat), kv = .int .i64 (k : Int) ∧ k ≤ ys.length ∧ cv = .int .u64 (C : Int) ∧ C < 4294967296 ∧ zs.length = n ∧ Hid (okN zs) ∧ Hid (∀ j, i + ys.length ≤ j → zs.getD j 0 = 0) ∧ Hid (val zs + B32 ^ (i + k) * C = V0 + x * B32 ^ i * val (ys.take k)) ∧ Hid (OwnU wr w.heap.size (.slice (some ⟨g, 0, none⟩) n n) zs) ∧ Hid (Below w.heap.size w wr)
theorem RowRel.next {g n i x V0 k C S M : Nat} {xs ys zs : List Nat} {w wr : World} (hg : g = w.heap.size) (hn : n = xs.length + ys.length) (hi : i < xs.length) (hk : k < ys.length) (hzl : zs.length = n) (hx : x < B32) (hC : C < B32) (hok : okN zs) (hok' : okN ys) (hz : ∀ j, i + ys.length ≤ j → zs.getD j 0 = 0)
  (hv : val zs + B32 ^ (i + k) * C = V0 + x * B32 ^ i * val (ys.take k)) (hO : OwnU wr w.heap.size (.slice (some ⟨g, 0, none⟩) n n) zs) (hb : Below w.heap.size w wr) (hM : M = x * ys.getD k 0) (hS : S = C + (zs.getD (i + k) 0 + M)) :
  RowRel g n i x V0 xs ys w (.int .i64 ((k : Int) + 1)) (.int .u64 ((S : Int) / 4294967296)) (wr.setCell ⟨g, i + k, none⟩ (.int .u32 ((S : Int) % 4294967296))) := by
 have e1 : ((S % B32 : Nat) : Int) = (S : Int) % 4294967296 := by simp [B32]
 have e2 : ((S / B32 : Nat) : Int) = (S : Int) / 4294967296 := by simp [B32]
 obtain ⟨o1, _⟩ := hO.set hzl (i + k) (S % B32)
 rw [e1] at o1
 have hyk := okN_at hok' k
 have hz1 := okN_at hok (i + k)
 have hMle : M ≤ (B32 - 1) * (B32 - 1) := by rw [hM]; exact Nat.mul_le_mul (by omega) (by omega)
 have hSlt : S / B32 < 4294967296 := by
  rw [Nat.div_lt_iff_lt_mul (by decide)]
  unfold B32 at *
  omega
 refine ⟨k + 1, S / B32, zs.set (i + k) (S % B32), by go_num, hk, by rw [e2], hSlt, by rw [List.length_set]; exact hzl, J (okN_setw hok (Nat.mod_lt _ (by decide))), J fun j hj => ?_, J ?_, J o1, J (hb.setCell (by rw [hg]; exact Nat.le_refl _) _)⟩
 ·rw [getD_set_ne (by omega)]; exact hz j hj
 ·rw [val_take_any ys k]
  exact mul_step hv (by rw [hS, hM]) (val_setw zs (i + k) _ (by omega))
theorem times_any (A A' : Option Addr) (c c' B B' : Nat) (xs ys : List Nat) (w : World) (hx : RdU w B A xs) (hB : B ≤ w.heap.size) (hy : RdU w B' A' ys) (hB' : B' ≤ w.heap.size) (hok : okN xs) (hok' : okN ys) (hl : xs.length ≤ 2000000) (hl' : ys.length ≤ 2000000) :
  Calls Tryz.prog 202 #[.slice A xs.length c, .slice A' ys.length c'] w (NRet (val xs * val ys) w) := by
 have hmk := run_make_row' (P := Tryz.prog) 145 221 (.int .u32 0) 4 Tryz.underlying145 infoU rfl .i64 .i64 (xs.length + ys.length) (by omega) (by omega)
 have hcast : ((xs.length + ys.length : Nat) : Int) = (xs.length : Int) + (ys.length : Int) := by omega
 rw [hcast] at hmk
 have HX := J hx
 have HY := J hy
 have HOk := J hok
 have HOk' := J hok'
 have H0 : Hid (MulRel w.heap.size (xs.length + ys.length) xs ys w (.int .i64 0) (w.alloc (.cells (madeCells #[.int .u32 0] (xs.length + ys.length)) 221))) :=
  J ⟨0, zerosU (xs.length + ys.length), rfl, Nat.zero_le _, by simp [zerosU], J (by intro y hy; unfold zerosU at hy; rw [(List.mem_replicate.1 hy).2]; decide), J (fun j _ => by simp [zerosU, List.getD, List.getElem?_replicate]; split <;> rfl), J (by
   have : ∀ m, val (zerosU m) = 0 := fun m => by
    induction m with
    | zero => rfl
    | succ m ih => rw [zerosU, List.replicate_succ, val]; unfold zerosU at ih; rw [ih]; rfl
   rw [this]; simp [val]), J (made_own w _ (by omega)), J ((Below.refl _ _).alloc (Nat.le_refl _) _)⟩
 clear hx hy hok hok' hcast
 go_enter Tryz.func202, Tryz.ntmps202
 go_wp2
 clear hmk
 go_loopw [19] (fun iv wr => MulRel w.heap.size (xs.length + ys.length) xs ys w iv wr) (fun iv _ => xs.length - (intOf iv).toNat)
 case atStart => exact H0.out
 case round =>
  obtain ⟨i, zs, rfl, hi, hzl, hok, hz, hv, HO, HBl⟩ := hrel
  clear H0
  by_cases hlt : i < xs.length
  ·have hx1 : xs.getD i 0 < B32 := okN_at HOk.out i
   obtain ⟨bb, off, rfl, _, hc⟩ := (HX.out.below HBl.out hB) (by omega)
   have gx := hc i hlt
   clear hc
   have hvx := J (val_take_any xs i)
   have HR0 : Hid (RowRel w.heap.size (xs.length + ys.length) i (xs.getD i 0) (val zs) xs ys w (.int .i64 0) (.int .u64 0) wr) :=
    J ⟨0, 0, zs, rfl, Nat.zero_le _, rfl, by omega, hzl, hok, hz, J (by simp [val]), HO, HBl⟩
   have HV0 := J hv.out
   obtain ⟨V0, hV0⟩ : ∃ V0, val zs = V0 := ⟨_, rfl⟩
   rw [hV0] at HR0 HV0
   have HX1 := J hx1
   clear hV0 hv hz hok HO HBl hzl hx1
   generalize xs.getD i 0 = x at *
   go_wp2
   go_loopw [26, 8] (fun kv cv wr => RowRel w.heap.size (xs.length + ys.length) i x V0 xs ys w kv cv wr) (fun kv _ _ => ys.length - (intOf kv).toNat)
   case atStart => exact HR0.out
   case round =>
    obtain ⟨k, C, zs, rfl, hk, rfl, hC, hzl, hok, hz, hv, HO, HBl⟩ := hrel
    clear HR0
    by_cases hkt : k < ys.length
    ·obtain ⟨bb2, off2, rfl, _, hc2⟩ := (HY.out.below HBl.out hB') (by omega)
     have gy := hc2 k hkt
     clear hc2
     have hy1 := okN_at HOk'.out k
     have hz1 := okN_at hok.out (i + k)
     have hx1 := HX1.out
     obtain ⟨gc, gf⟩ := HO.out.cell hzl (i + k) (by omega)
     obtain ⟨M, hM⟩ : ∃ M, M = x * ys.getD k 0 := ⟨_, rfl⟩
     have hMle : M ≤ 4294967295 * 4294967295 := by rw [hM]; exact Nat.mul_le_mul (by unfold B32 at hx1; omega) (by unfold B32 at hy1; omega)
     obtain ⟨S, hS⟩ : ∃ S, S = C + (zs.getD (i + k) 0 + M) := ⟨_, rfl⟩
     have HN := J (RowRel.next (g := w.heap.size) rfl rfl hlt hkt hzl hx1 hC hok.out HOk'.out hz.out hv.out HO.out HBl.out hM hS)
     have hmul : (x : Int) * ((ys.getD k 0 : Nat) : Int) = (M : Int) := by rw [hM]; simp
     have hsum : (C : Int) + (((zs.getD (i + k) 0 : Nat) : Int) + (M : Int)) = (S : Int) := by omega
     have hSlt : S < 18446744073709551616 := by unfold B32 at hz1; omega
     have HS2 := J hS
     unfold B32 at hy1 hz1 hx1
     clear hM hS
     generalize ys.getD k 0 = y at *
     generalize zs.getD (i + k) 0 = z at *
     go_wp2
     go_roundw
     case rel => exact HN.out
     case measure => simp [intOf]; omega
    ·obtain rfl : k = ys.length := by omega
     obtain ⟨gc, gf⟩ := HO.out.cell hzl (i + ys.length) (by omega)
     have hz0 := hz.out (i + ys.length) (Nat.le_refl _)
     rw [hz0] at gc
     have HN : Hid (MulRel w.heap.size (xs.length + ys.length) xs ys w (.int .i64 ((i : Int) + 1)) (wr.setCell ⟨w.heap.size, i + ys.length, none⟩ (.int .u32 (C : Int)))) := J (by
      obtain ⟨o1, _⟩ := HO.out.set hzl (i + ys.length) C
      refine ⟨i + 1, zs.set (i + ys.length) C, by go_num, hlt, by rw [List.length_set]; exact hzl, J (okN_setw hok.out (by unfold B32; exact hC)), J fun j hj => ?_, J ?_, J o1, J (HBl.out.setCell (Nat.le_refl _) _)⟩
      ·rw [getD_set_ne (by omega)]; exact hz.out j (by omega)
      ·have h1 := val_setw zs (i + ys.length) C (by omega)
       rw [hz0, Nat.mul_zero, Nat.add_zero, hv.out, List.take_of_length_le (Nat.le_refl _), HV0.out] at h1
       rw [h1, hvx.out, Nat.add_mul, Nat.mul_comm x (B32 ^ i)])
     have hC2 : C < 4294967296 := hC
     clear hz0
     go_wp2
     go_roundw
     case rel => exact HN.out
     case measure => simp [intOf]; omega
  ·obtain rfl : i = xs.length := by omega
   rw [List.take_of_length_le (Nat.le_refl _)] at hv
   have hk := natL_take hok.out
   have HT := J (trim_any (some ⟨w.heap.size, 0, none⟩) (xs.length + ys.length) wr.heap.size zs wr HO.out.rd hok.out (by omega) (by omega) (by omega))
   rw [hzl] at HT
   have HR := J (NRet.of (x := val zs) (w := w) (w' := wr) (c := xs.length + ys.length) HO.out.rd hk.1 hk.2 HBl.out)
   rw [hv.out] at HT HR
   clear hk
   go_wp2_with fail
   refine HT.out.mono ?_
   rintro e w1 ⟨rfl, rfl⟩
   go_wp2
   go_ret
   exact HR.out
end Nat32
namespace Nat32
open Go.RowKit Base Mem NatM
theorem drop_cons {l : List Nat} {m : Nat} (h : m < l.length) : l.drop m = l.getD m 0 :: l.drop (m + 1) := by
 rw [List.drop_eq_getElem_cons h]
 simp [List.getD, h]
theorem drop_setw {l : List Nat} {m d : Nat} (h : m < l.length) : (l.set m d).drop m = d :: l.drop (m + 1) := by
 rw [drop_cons (by rw [List.length_set]; exact h)]
 have e1 : (l.set m d).getD m 0 = d := by simp [List.getD, h]
 have e2 : (l.set m d).drop (m + 1) = l.drop (m + 1) := by rw [List.drop_set_of_lt (by omega)]
 rw [e1, e2]
theorem down_step {C x P vz vx T : Nat} (h : vx = P * vz + C) (hT : T = C * B32 + x) : x + B32 * vx = P * (T / P + B32 * vz) + T % P := by
 have h1 := Nat.mod_add_div T P
 rw [h, Nat.mul_add, Nat.mul_add]
 have e : B32 * (P * vz) = P * (B32 * vz) := by rw [Nat.mul_left_comm]
 have e2 : B32 * C = C * B32 := Nat.mul_comm _ _
 omega
def DnRel (g s : Nat) (xs : List Nat) (w : World) (iv cv : Value) (wr : World) : Prop :=
 ∃ (k C : Nat) (zs : List Nat), iv = .int .i64 ((k : Int) - 1) ∧ k ≤ xs.length ∧ cv = .int .u64 (C : Int) ∧ C < 2 ^ s ∧ zs.length = xs.length ∧ Hid (okN zs) ∧ Hid (val (xs.drop k) = 2 ^ s * val (zs.drop k) + C) ∧ Hid (OwnU wr w.heap.size (.slice (some ⟨g, 0, none⟩) xs.length xs.length) zs) ∧ Hid (Below w.heap.size w wr)
def DnRet (s x : Nat) (w : World) (e : Ending) (w' : World) : Prop := ∃ A c, e = .returned (.tuple #[.int .u32 ((x % 2 ^ s : Nat) : Int), .slice A (natL (x / 2 ^ s)).length c]) ∧ RdU w' w'.heap.size A (natL (x / 2 ^ s)) ∧ Below w.heap.size w w'
theorem down_any (A : Option Addr) (c B s : Nat) (xs : List Nat) (w : World) (hx : RdU w B A xs) (hB : B ≤ w.heap.size) (hok : okN xs) (hl : xs.length ≤ 4000000) (hs : s ≤ 31) :
  Calls Tryz.prog 252 #[.slice A xs.length c, .int .i64 (s : Int)] w (DnRet s (val xs) w) := by
 have hmk := run_make_row' (P := Tryz.prog) 145 221 (.int .u32 0) 4 Tryz.underlying145 infoU rfl .i64 .i64 xs.length (by omega) (by omega)
 have HX := J hx
 have HOk := J hok
 have hz0 : okN (zerosU xs.length) := by intro y hy; unfold zerosU at hy; rw [(List.mem_replicate.1 hy).2]; decide
 have H0 : Hid (DnRel w.heap.size s xs w (.int .i64 ((xs.length : Int) - 1)) (.int .u64 0) (w.alloc (.cells (madeCells #[.int .u32 0] xs.length) 221))) :=
  J ⟨xs.length, 0, zerosU xs.length, rfl, Nat.le_refl _, rfl, Nat.two_pow_pos s, by simp [zerosU], J hz0, J (by rw [List.drop_of_length_le (Nat.le_refl _), List.drop_of_length_le (by simp [zerosU])]; simp [val]), J (made_own w _ (by omega)), J ((Below.refl _ _).alloc (Nat.le_refl _) _)⟩
 clear hx hok hz0
 go_enter Tryz.func252, Tryz.ntmps252
 go_wp2
 clear hmk
 go_loopw [8, 7] (fun iv cv wr => DnRel w.heap.size s xs w iv cv wr) (fun iv _ _ => (intOf iv + 1).toNat)
 case atStart => exact H0.out
 case round =>
  obtain ⟨k, C, zs, rfl, hk, rfl, hC, hzl, hok, hv, HO, HBl⟩ := hrel
  clear H0
  obtain ⟨P, hPe⟩ : ∃ P, P = 2 ^ s := ⟨_, rfl⟩
  have hP31 : P ≤ 2 ^ 31 := by rw [hPe]; exact Nat.pow_le_pow_right (by decide) hs
  have hP0 : 0 < P := by rw [hPe]; exact Nat.two_pow_pos s
  by_cases hpos : 0 < k
  ·obtain ⟨m, rfl⟩ : ∃ m, k = m + 1 := ⟨k - 1, by omega⟩
   have hx1 : xs.getD m 0 < B32 := okN_at HOk.out m
   obtain ⟨bb, off, rfl, _, hc⟩ := (HX.out.below HBl.out hB) (by omega)
   have gx := hc m (by omega)
   clear hc
   obtain ⟨gc, gf⟩ := HO.out.cell hzl m (by omega)
   rw [← hPe] at hC
   obtain ⟨T, hT⟩ : ∃ T, T = C * B32 + xs.getD m 0 := ⟨_, rfl⟩
   have hTlt : T < P * B32 := by
    have h1 := Nat.mul_le_mul_right B32 (show C + 1 ≤ P from hC)
    rw [Nat.add_mul, Nat.one_mul] at h1
    omega
   have hTle : P * B32 ≤ 2 ^ 31 * B32 := Nat.mul_le_mul_right _ hP31
   have hQ : T / P < B32 := by rw [Nat.div_lt_iff_lt_mul hP0, Nat.mul_comm B32]; exact hTlt
   have hmod : T % P < P := Nat.mod_lt _ hP0
   have HN : Hid (DnRel w.heap.size s xs w (.int .i64 ((m : Int) - 1)) (.int .u64 ((T % P : Nat) : Int)) (wr.setCell ⟨w.heap.size, m, none⟩ (.int .u32 ((T / P : Nat) : Int)))) := J (by
    obtain ⟨o1, _⟩ := HO.out.set hzl m (T / P)
    refine ⟨m, T % P, zs.set m (T / P), rfl, by omega, rfl, by rw [← hPe]; exact hmod, by rw [List.length_set]; exact hzl, J (okN_setw hok.out hQ), J ?_, J o1, J (HBl.out.setCell (Nat.le_refl _) _)⟩
    rw [drop_cons (by omega), drop_setw (by omega), val, val, ← hPe]
    refine down_step ?_ hT
    rw [hPe]; exact hv.out)
   have e1 : (((m + 1 : Nat) : Int) - 1) = (m : Int) := by omega
   rw [e1]
   have hpw : (2 : Int) ^ s = (P : Int) := by rw [hPe]; simp
   unfold B32 at hT hx1 hQ hTle
   have hTe : C * 4294967296 ||| xs.getD m 0 = T := by
    have e := Nat.shiftLeft_add_eq_or_of_lt (show xs.getD m 0 < 2 ^ 32 by omega) C
    rw [Nat.shiftLeft_eq, show (2 : Nat) ^ 32 = 4294967296 from rfl] at e
    rw [← e, hT]
   have hT63 : T < 9223372036854775808 := by unfold B32 at hTlt; omega
   have hbo : bits .or .u64 ((C : Int) * 4294967296) ((xs.getD m 0 : Nat) : Int) = (T : Int) := by
    have h := u64_or (C * 4294967296) (xs.getD m 0) (by omega) (by omega)
    rw [hTe, show ((C * 4294967296 : Nat) : Int) = (C : Int) * 4294967296 by omega] at h
    exact h
   have hand : bits .and .u64 (T : Int) ((P : Int) - 1) = ((T % P : Nat) : Int) := by
    have h := u64_and_nat T (P - 1) (by omega) (by omega)
    rw [show ((P - 1 : Nat) : Int) = (P : Int) - 1 by omega] at h
    rw [h, hPe, Nat.and_two_pow_sub_one_eq_mod]
   have hdiv : (T : Int) / (P : Int) = ((T / P : Nat) : Int) := by simp
   clear e1 hTe hTlt hTle hPe
   generalize hQe : T / P = Q at *
   generalize hRe : T % P = R at *
   generalize xs.getD m 0 = x at *
   generalize zs.getD m 0 = z at *
   clear hQe hRe hT
   go_wp2
   go_roundw
   case rel => exact HN.out
   case measure => simp [intOf]
  ·obtain rfl : k = 0 := by omega
   have hv2 := hv.out
   rw [List.drop_zero, List.drop_zero, ← hPe] at hv2
   rw [← hPe] at hC
   have hq : val zs = val xs / P := by rw [hv2, Nat.mul_add_div hP0, Nat.div_eq_of_lt hC, Nat.add_zero]
   have hr : C = val xs % P := by rw [hv2, Nat.mul_add_mod, Nat.mod_eq_of_lt hC]
   have hkk := natL_take hok.out
   have HT := J (trim_any (some ⟨w.heap.size, 0, none⟩) xs.length wr.heap.size zs wr HO.out.rd hok.out (by omega) (by omega) (by omega))
   rw [hzl] at HT
   have HR : Hid (DnRet s (val xs) w (.returned (.tuple #[.int .u32 (C : Int), .slice (some ⟨w.heap.size, 0, none⟩) (natL (val zs)).length xs.length])) wr) := J (by
    refine ⟨some ⟨w.heap.size, 0, none⟩, xs.length, by rw [← hPe, hr, hq], ?_, HBl.out⟩
    rw [← hPe, ← hq]
    have := RdU.take HO.out.rd hkk.2
    rwa [hkk.1] at this)
   have hC32 : C < 4294967296 := by omega
   clear hv2 hq hr hkk hPe hP31 hP0
   go_wp2_with fail
   refine HT.out.mono ?_
   rintro e w1 ⟨rfl, rfl⟩
   go_wp2
   go_ret2
   exact HR.out
end Nat32
namespace Nat32
open Go.RowKit Base Mem NatM
theorem add_step32 {i z vx vy C x y S : Nat} (h : z + B32 ^ i * C = vx + vy) (hS : S = C + x + y) :
  (z + B32 ^ i * (S % B32)) + B32 ^ (i + 1) * (S / B32) = (vx + B32 ^ i * x) + (vy + B32 ^ i * y) := by
 have h1 := Nat.mod_add_div S B32
 have e1 : B32 ^ (i + 1) * (S / B32) = B32 ^ i * (B32 * (S / B32)) := by rw [Nat.pow_succ, Nat.mul_assoc]
 have e2 : B32 ^ i * (S % B32) + B32 ^ i * (B32 * (S / B32)) = B32 ^ i * C + (B32 ^ i * x + B32 ^ i * y) := by
  rw [← Nat.mul_add, h1, hS, Nat.mul_add, Nat.mul_add]; omega
 rw [e1]; omega
def AddRel (g : Nat) (xs ys : List Nat) (w : World) (iv cv : Value) (wr : World) : Prop :=
 ∃ (i C : Nat) (zs : List Nat), iv = .int .i64 (i : Int) ∧ i ≤ xs.length + 1 ∧ cv = .int .u64 (C : Int) ∧ C ≤ 1 ∧ zs.length = xs.length + 1 ∧ Hid (okN (zs.take i)) ∧ Hid (val (zs.take i) + B32 ^ i * C = val (xs.take i) + val (ys.take i)) ∧ Hid (OwnU wr w.heap.size (.slice (some ⟨g, 0, none⟩) (xs.length + 1) (xs.length + 1)) zs) ∧ Hid (Below w.heap.size w wr)
theorem digit_lt {xs : List Nat} (h : okN xs) (i : Nat) : xs.getD i 0 < B32 := by
 rcases Nat.lt_or_ge i xs.length with hl | hl
 ·exact h _ (by simp [List.getD, hl])
 ·rw [show xs.getD i 0 = 0 by simp [List.getD, hl]]; decide
theorem AddRel.next {g i C S : Nat} {xs ys zs : List Nat} {w wr : World} (hg : g = w.heap.size) (hi : i < xs.length + 1) (hC : C ≤ 1) (hzl : zs.length = xs.length + 1) (hok : okN xs) (hok' : okN ys) (ho : okN (zs.take i)) (hv : val (zs.take i) + B32 ^ i * C = val (xs.take i) + val (ys.take i))
  (hO : OwnU wr w.heap.size (.slice (some ⟨g, 0, none⟩) (xs.length + 1) (xs.length + 1)) zs) (hb : Below w.heap.size w wr) (hS : S = C + xs.getD i 0 + ys.getD i 0) :
  AddRel g xs ys w (.int .i64 ((i : Int) + 1)) (.int .u64 ((S : Int) / 4294967296)) (wr.setCell ⟨g, i, none⟩ (.int .u32 ((S : Int) % 4294967296))) := by
 have hx := digit_lt hok i
 have hy := digit_lt hok' i
 have e1 : ((S % B32 : Nat) : Int) = (S : Int) % 4294967296 := by simp [B32]
 have e2 : ((S / B32 : Nat) : Int) = (S : Int) / 4294967296 := by simp [B32]
 rw [← e1, ← e2]
 obtain ⟨o1, _⟩ := hO.set hzl i (S % B32)
 refine ⟨i + 1, S / B32, zs.set i (S % B32), by go_num, hi, rfl, ?_, by rw [List.length_set]; exact hzl, J (okN_set (by omega) ho (Nat.mod_lt _ (by decide))), J ?_, J o1, J (hb.setCell (by show w.heap.size ≤ g; omega) _)⟩
 ·unfold B32 at hx hy ⊢; omega
 ·rw [val_set zs i _ (by omega), val_take_any xs i, val_take_any ys i]
  exact add_step32 hv hS
theorem add_last {P Q M C vz vx vy : Nat} (h : vz + M * C = vx + vy) (hx : vx < P) (hy : vy < Q) (hQ : Q ≤ P) (hM : 2 * P ≤ M) (hC : C ≤ 1) : vz = vx + vy := by
 have h01 : C = 0 ∨ C = 1 := by omega
 rcases h01 with rfl | rfl
 ·rw [Nat.mul_zero] at h; exact h
 ·rw [Nat.mul_one] at h; omega
theorem add_done {xs ys zs : List Nat} {C : Nat} (hok : okN xs) (hok' : okN ys) (hl : ys.length ≤ xs.length) (hC : C ≤ 1) (h : val zs + B32 ^ (xs.length + 1) * C = val xs + val ys) : val zs = val xs + val ys := by
 refine add_last h (val_lt xs hok) (val_lt ys hok') (Nat.pow_le_pow_right (by decide) hl) ?_ hC
 rw [Nat.pow_succ, Nat.mul_comm]
 exact Nat.mul_le_mul_left _ (by decide)
theorem plus_any (A A' : Option Addr) (c c' B B' : Nat) (xs ys : List Nat) (w : World) (hx : RdU w B A xs) (hB : B ≤ w.heap.size) (hy : RdU w B' A' ys) (hB' : B' ≤ w.heap.size) (hok : okN xs) (hok' : okN ys) (hl : xs.length ≤ 4000000) (hl' : ys.length ≤ 4000000) :
  Calls Tryz.prog 203 #[.slice A xs.length c, .slice A' ys.length c'] w (NRet (val xs + val ys) w) := by
 have HX := J hx
 have HY := J hy
 have HOk := J hok
 have HOk' := J hok'
 clear hx hy hok hok'
 have start : ∀ us vs : List Nat, us.length ≤ 4000000 → AddRel w.heap.size us vs w (.int .i64 0) (.int .u64 0) (w.alloc (.cells (madeCells #[.int .u32 0] (us.length + 1)) 221)) := fun us vs h =>
  ⟨0, 0, zerosU (us.length + 1), rfl, Nat.zero_le _, rfl, by omega, by simp [zerosU], J (by intro y hy; simp at hy), J (by simp [val]), J (made_own w _ (by omega)), J ((Below.refl _ _).alloc (Nat.le_refl _) _)⟩
 by_cases hsw : xs.length < ys.length
 ·have hmk := run_make_row' (P := Tryz.prog) 145 221 (.int .u32 0) 4 Tryz.underlying145 infoU rfl .i64 .i64 (ys.length + 1) (by omega) (by omega)
  have hcast : ((ys.length + 1 : Nat) : Int) = (ys.length : Int) + 1 := by omega
  rw [hcast] at hmk
  have H0 := J (start ys xs hl')
  clear start hcast
  go_enter Tryz.func203, Tryz.ntmps203
  go_wp2
  clear hmk
  go_loopw [21, 6] (fun iv cv wr => AddRel w.heap.size ys xs w iv cv wr) (fun iv _ _ => ys.length + 1 - (intOf iv).toNat)
  case atStart => exact H0.out
  case round =>
   obtain ⟨i, C, zs, rfl, hi, rfl, hC, hzl, ho, hv, HO, HBl⟩ := hrel
   clear H0
   by_cases hlt : i < ys.length + 1
   ·have hx1 := digit_lt HOk'.out i
    have hy1 := digit_lt HOk.out i
    obtain ⟨gc, gf⟩ := HO.out.cell hzl i (by omega)
    have HN := J (AddRel.next rfl hlt hC hzl HOk'.out HOk.out ho.out hv.out HO.out HBl.out rfl)
    unfold B32 at hx1 hy1
    by_cases hix : i < ys.length
    ·obtain ⟨bb, off, rfl, _, hc⟩ := (HY.out.below HBl.out hB') (by omega)
     have gx := hc i hix
     clear hc
     by_cases hiy : i < xs.length
     ·obtain ⟨bb2, off2, rfl, _, hc2⟩ := (HX.out.below HBl.out hB) (by omega)
      have gy := hc2 i hiy
      clear hc2
      generalize ys.getD i 0 = x at *
      generalize xs.getD i 0 = y at *
      generalize zs.getD i 0 = z at *
      have hcS : ((C + x + y : Nat) : Int) = (C : Int) + (x : Int) + (y : Int) := by omega
      rw [hcS] at HN
      go_wp2
      go_roundw
      case rel => exact HN.out
      case measure => simp [intOf]; omega
     ·have hy0 : xs.getD i 0 = 0 := by
       have : xs.length ≤ i := by omega
       simp [List.getD, this]
      rw [hy0] at HN
      clear hy0
      generalize ys.getD i 0 = x at *
      generalize zs.getD i 0 = z at *
      have hcS : ((C + x + 0 : Nat) : Int) = (C : Int) + (x : Int) := by omega
      rw [hcS] at HN
      go_wp2
      go_roundw
      case rel => exact HN.out
      case measure => simp [intOf]; omega
    ·have hy0 : xs.getD i 0 = 0 := by
      have : xs.length ≤ i := by omega
      simp [List.getD, this]
     have hx0 : ys.getD i 0 = 0 := by
      have : ys.length ≤ i := by omega
      simp [List.getD, this]
     rw [hy0, hx0] at HN
     clear hy0 hx0
     have hiy : ¬ i < xs.length := by omega
     generalize zs.getD i 0 = z at *
     have hcS : ((C + 0 + 0 : Nat) : Int) = (C : Int) := by omega
     have hCm : (C : Int) % 4294967296 = (C : Int) := by omega
     rw [hcS, hCm] at HN
     go_wp2
     go_roundw
     case rel => exact HN.out
     case measure => simp [intOf]; omega
   ·obtain rfl : i = ys.length + 1 := by omega
    have hok2 : okN zs := by have := ho.out; rwa [List.take_of_length_le (by omega)] at this
    have hv2 : val zs = val xs + val ys := by
     have h1 := hv.out
     rw [List.take_of_length_le (by omega), List.take_of_length_le (by omega), List.take_of_length_le (by omega)] at h1
     have h2 := add_done HOk'.out HOk.out (by omega) hC h1
     omega
    have hk := natL_take hok2
    have HT := J (trim_any (some ⟨w.heap.size, 0, none⟩) (ys.length + 1) wr.heap.size zs wr HO.out.rd hok2 (by omega) (by omega) (by omega))
    rw [hzl] at HT
    have HR : Hid (NRet (val zs) w (.returned (.slice (some ⟨w.heap.size, 0, none⟩) (natL (val zs)).length (ys.length + 1))) wr) := J ⟨some ⟨w.heap.size, 0, none⟩, ys.length + 1, rfl, by have := HO.out.rd.take hk.2; rwa [hk.1] at this, HBl.out⟩
    rw [hv2] at HT HR
    clear hok2 hv2 hk
    go_wp2_with fail
    refine HT.out.mono ?_
    rintro e w1 ⟨rfl, rfl⟩
    go_wp2
    go_ret
    exact HR.out
 ·have hmk := run_make_row' (P := Tryz.prog) 145 221 (.int .u32 0) 4 Tryz.underlying145 infoU rfl .i64 .i64 (xs.length + 1) (by omega) (by omega)
  have hcast : ((xs.length + 1 : Nat) : Int) = (xs.length : Int) + 1 := by omega
  rw [hcast] at hmk
  have H0 := J (start xs ys hl)
  clear start hcast
  go_enter Tryz.func203, Tryz.ntmps203
  go_wp2
  clear hmk
  go_loopw [21, 6] (fun iv cv wr => AddRel w.heap.size xs ys w iv cv wr) (fun iv _ _ => xs.length + 1 - (intOf iv).toNat)
  case atStart => exact H0.out
  case round =>
   obtain ⟨i, C, zs, rfl, hi, rfl, hC, hzl, ho, hv, HO, HBl⟩ := hrel
   clear H0
   by_cases hlt : i < xs.length + 1
   ·have hx1 := digit_lt HOk.out i
    have hy1 := digit_lt HOk'.out i
    obtain ⟨gc, gf⟩ := HO.out.cell hzl i (by omega)
    have HN := J (AddRel.next rfl hlt hC hzl HOk.out HOk'.out ho.out hv.out HO.out HBl.out rfl)
    unfold B32 at hx1 hy1
    by_cases hix : i < xs.length
    ·obtain ⟨bb, off, rfl, _, hc⟩ := (HX.out.below HBl.out hB) (by omega)
     have gx := hc i hix
     clear hc
     by_cases hiy : i < ys.length
     ·obtain ⟨bb2, off2, rfl, _, hc2⟩ := (HY.out.below HBl.out hB') (by omega)
      have gy := hc2 i hiy
      clear hc2
      generalize xs.getD i 0 = x at *
      generalize ys.getD i 0 = y at *
      generalize zs.getD i 0 = z at *
      have hcS : ((C + x + y : Nat) : Int) = (C : Int) + (x : Int) + (y : Int) := by omega
      rw [hcS] at HN
      go_wp2
      go_roundw
      case rel => exact HN.out
      case measure => simp [intOf]; omega
     ·have hy0 : ys.getD i 0 = 0 := by
       have : ys.length ≤ i := by omega
       simp [List.getD, this]
      rw [hy0] at HN
      clear hy0
      generalize xs.getD i 0 = x at *
      generalize zs.getD i 0 = z at *
      have hcS : ((C + x + 0 : Nat) : Int) = (C : Int) + (x : Int) := by omega
      rw [hcS] at HN
      go_wp2
      go_roundw
      case rel => exact HN.out
      case measure => simp [intOf]; omega
    ·have hy0 : ys.getD i 0 = 0 := by
      have : ys.length ≤ i := by omega
      simp [List.getD, this]
     have hx0 : xs.getD i 0 = 0 := by
      have : xs.length ≤ i := by omega
      simp [List.getD, this]
     rw [hy0, hx0] at HN
     clear hy0 hx0
     have hiy : ¬ i < ys.length := by omega
     generalize zs.getD i 0 = z at *
     have hcS : ((C + 0 + 0 : Nat) : Int) = (C : Int) := by omega
     have hCm : (C : Int) % 4294967296 = (C : Int) := by omega
     rw [hcS, hCm] at HN
     go_wp2
     go_roundw
     case rel => exact HN.out
     case measure => simp [intOf]; omega
   ·obtain rfl : i = xs.length + 1 := by omega
    have hok2 : okN zs := by have := ho.out; rwa [List.take_of_length_le (by omega)] at this
    have hv2 : val zs = val xs + val ys := by
     have h1 := hv.out
     rw [List.take_of_length_le (by omega), List.take_of_length_le (by omega), List.take_of_length_le (by omega)] at h1
     have h2 := add_done HOk.out HOk'.out (by omega) hC h1
     omega
    have hk := natL_take hok2
    have HT := J (trim_any (some ⟨w.heap.size, 0, none⟩) (xs.length + 1) wr.heap.size zs wr HO.out.rd hok2 (by omega) (by omega) (by omega))
    rw [hzl] at HT
    have HR : Hid (NRet (val zs) w (.returned (.slice (some ⟨w.heap.size, 0, none⟩) (natL (val zs)).length (xs.length + 1))) wr) := J ⟨some ⟨w.heap.size, 0, none⟩, xs.length + 1, rfl, by have := HO.out.rd.take hk.2; rwa [hk.1] at this, HBl.out⟩
    rw [hv2] at HT HR
    clear hok2 hv2 hk
    go_wp2_with fail
    refine HT.out.mono ?_
    rintro e w1 ⟨rfl, rfl⟩
    go_wp2
    go_ret
    exact HR.out
end Nat32
namespace LvR
def bump (xs : List Int) : List Int := xs.set (xs.length - 1) (xs.getD (xs.length - 1) 0 + 1)
def newRun (f : Nat → Nat) (i : Nat) : Bool := decide (i = 0) || decide (f i ≠ f (i - 1))
def runsTo (f : Nat → Nat) : Nat → List Int
 | 0 => []
 | i + 1 => bump (if newRun f i then runsTo f i ++ [0] else runsTo f i)
theorem bump_len (xs : List Int) : (bump xs).length = xs.length := by simp [bump]
theorem bump_snoc (xs : List Int) : bump (xs ++ [0]) = xs ++ [1] := by simp [bump, List.getD]
theorem bump_mem {xs : List Int} {lo hi : Int} (h : ∀ k, k < xs.length → lo ≤ xs.getD k 0 ∧ xs.getD k 0 ≤ hi) : ∀ k, k < xs.length → lo ≤ (bump xs).getD k 0 ∧ (bump xs).getD k 0 ≤ hi + 1 := by
 intro k hk
 have h1 := h k hk
 have h2 := h (xs.length - 1) (by omega)
 unfold bump
 by_cases e : xs.length - 1 = k
 ·rw [← e] at hk ⊢
  simp only [List.getD, List.getElem?_set_self hk, Option.getD_some] at h2 ⊢
  omega
 ·simp only [List.getD, List.getElem?_set_ne e] at h1 ⊢
  omega
theorem runs_in (f : Nat → Nat) : ∀ i, (runsTo f i).length ≤ i ∧ (1 ≤ i → 1 ≤ (runsTo f i).length) ∧ ∀ k, k < (runsTo f i).length → 1 ≤ (runsTo f i).getD k 0 ∧ (runsTo f i).getD k 0 ≤ (i : Int)
 | 0 => ⟨Nat.le_refl _, fun h => by omega, fun k h => absurd h (Nat.not_lt_zero k)⟩
 | i + 1 => by
  obtain ⟨h1, h2, h3⟩ := runs_in f i
  rw [runsTo]
  by_cases hn : newRun f i = true
  ·rw [if_pos hn, bump_snoc]
   refine ⟨by simp; omega, fun _ => by simp, fun k hk => ?_⟩
   simp at hk
   by_cases e : k < (runsTo f i).length
   ·have := h3 k e
    simp only [List.getD, List.getElem?_append_left e] at this ⊢
    omega
   ·obtain rfl : k = (runsTo f i).length := by omega
    simp [List.getD]
    omega
  ·rw [if_neg hn]
   have hi : 1 ≤ i := by
    rcases Nat.eq_zero_or_pos i with h | h
    ·exact absurd (by simp [newRun, h]) hn
    ·exact h
   refine ⟨by rw [bump_len]; omega, fun _ => by rw [bump_len]; exact h2 hi, fun k hk => ?_⟩
   rw [bump_len] at hk
   have := bump_mem h3 k hk
   omega
def maxTo (xs : List Int) : Nat → Int
 | 0 => 0
 | k + 1 => max (maxTo xs k) (xs.getD k 0)
theorem maxTo_le {xs : List Int} {hi : Int} (h0 : 0 ≤ hi) (h : ∀ k, k < xs.length → xs.getD k 0 ≤ hi) : ∀ k, k ≤ xs.length → 0 ≤ maxTo xs k ∧ maxTo xs k ≤ hi
 | 0, _ => ⟨Int.le_refl _, h0⟩
 | k + 1, hk => by
  have := maxTo_le h0 h k (by omega)
  have := h k (by omega)
  rw [maxTo]; omega
theorem maxTo_ge {xs : List Int} : ∀ k, 1 ≤ k → xs.getD 0 0 ≤ maxTo xs k
 | 0, h => by omega
 | 1, _ => by rw [maxTo, maxTo]; omega
 | k + 2, _ => by
  have := maxTo_ge (xs := xs) (k + 1) (by omega)
  rw [maxTo]; omega
def mostR (f : Nat → Nat) (n : Nat) : Int := maxTo (runsTo f n) (runsTo f n).length
theorem mostR_in (f : Nat → Nat) {n : Nat} (hn : 1 ≤ n) : 1 ≤ mostR f n ∧ mostR f n ≤ (n : Int) := by
 obtain ⟨h1, h2, h3⟩ := runs_in f n
 have h4 := maxTo_le (xs := runsTo f n) (hi := (n : Int)) (by omega) (fun k hk => (h3 k hk).2) _ (Nat.le_refl _)
 have h5 := maxTo_ge (xs := runsTo f n) (runsTo f n).length (h2 hn)
 have h6 := h3 0 (h2 hn)
 unfold mostR
 omega
def onesTo (f : Nat → Nat) : Nat → Nat
 | 0 => 0
 | i + 1 => onesTo f i + (if f i = 49 then 1 else 0)
theorem ones_le (f : Nat → Nat) : ∀ i, onesTo f i ≤ i
 | 0 => Nat.le_refl _
 | i + 1 => by have := ones_le f i; rw [onesTo]; split <;> omega
end LvR
namespace LvJ
open Go.RowKit Base Mem LvR LvO Dice
def byt (s : ByteArray) (i : Nat) : Nat := if h : i < s.size then s[i].toNat else 0
theorem byt_at {s : ByteArray} {i : Nat} (h : i < s.size) : byt s i = s[i].toNat := dif_pos h
theorem lastI {w : World} {B m : Nat} {v : Value} {xs : List Int} (h : OwnI w B v xs) (hl : xs.length = m + 1) :
  ∃ g c, v = .slice (some ⟨g, 0, none⟩) (m + 1) c ∧ B ≤ g ∧ w.cell? ⟨g, m, none⟩ = some (.int .i64 (xs.getD m 0)) ∧ w.frozen? ⟨g, m, none⟩ = false ∧ OwnI (w.setCell ⟨g, m, none⟩ (.int .i64 (xs.getD m 0 + 1))) B v (bump xs) := by
 obtain ⟨A, c, e, hA⟩ := h.form
 obtain ⟨g, rfl, hg, hlt⟩ := hA (by omega)
 rw [hl] at e
 subst e
 have h' : w.ownsRow B 2 1 (.slice (some ⟨g, 0, none⟩) xs.length c) xs.length (ints xs) := by
  have := h
  unfold OwnI at this
  rw [hl] at this ⊢
  exact this
 have e := World.ownsRow.cellAt h' m (by omega)
 rw [ints_get _ m (by omega)] at e
 refine ⟨g, c, rfl, hg, e, h'.frozenAt m, ?_⟩
 have := (storeI (i := m) (xs.getD m 0 + 1) h hl).1
 rw [bump, hl, Nat.add_sub_cancel]
 exact this
def RnRel (s : ByteArray) (w : World) (ov : Value) (i : Nat) (wr : World) : Prop := Hid (OwnI wr w.heap.size ov (runsTo (byt s) i)) ∧ Hid (Below w.heap.size w wr)
def RunRet (s : ByteArray) (w : World) (e : Ending) (w' : World) : Prop := ∃ A c, e = .returned (.slice A (runsTo (byt s) s.size).length c) ∧ OwnI w' w.heap.size (.slice A (runsTo (byt s) s.size).length c) (runsTo (byt s) s.size) ∧ Below w.heap.size w w'
end LvJ
namespace Choose
open Go.RowKit Base Bits
def ch : Nat → Nat → Nat
 | _, 0 => 1
 | 0, _ + 1 => 0
 | n + 1, k + 1 => ch n k + ch n (k + 1)
theorem ch_zero (n : Nat) : ch n 0 = 1 := by cases n <;> rfl
theorem ch_over : ∀ n k, n < k → ch n k = 0
 | 0, k + 1, _ => rfl
 | n + 1, k + 1, h => by rw [ch, ch_over n k (by omega), ch_over n (k + 1) (by omega)]
theorem ch_self : ∀ n, ch n n = 1
 | 0 => rfl
 | n + 1 => by rw [ch, ch_self n, ch_over n (n + 1) (by omega)]
theorem ch_row : ∀ n k, (n + 1) * ch n k = (k + 1) * ch (n + 1) (k + 1)
 | n, 0 => by
  induction n with
  | zero => rfl
  | succ n ih =>
   rw [ch_zero] at *
   rw [ch, ch_zero]
   omega
 | 0, k + 1 => by rw [ch, ch, ch_over 0 (k + 1) (by omega), ch_over 0 (k + 2) (by omega)]; simp
 | n + 1, k + 1 => by
  have h1 := ch_row n k
  have h2 := ch_row n (k + 1)
  have e1 : ch (n + 1) (k + 1) = ch n k + ch n (k + 1) := rfl
  have e2 : ch (n + 2) (k + 2) = ch (n + 1) (k + 1) + ch (n + 1) (k + 2) := rfl
  have e3 : ch (n + 1) (k + 2) = ch n (k + 1) + ch n (k + 2) := rfl
  rw [show n + 1 + 1 = n + 2 from rfl, show k + 1 + 1 = k + 2 from rfl] at *
  generalize ch n k = a at *
  generalize ch n (k + 1) = b at *
  generalize ch n (k + 2) = c at *
  generalize ch (n + 1) (k + 1) = d at *
  generalize ch (n + 1) (k + 2) = e at *
  generalize ch (n + 2) (k + 2) = f at *
  subst e2
  have h3 : (n + 1) * (a + b) = (k + 1) * d + (k + 2) * e := by rw [Nat.mul_add, h1, h2]
  rw [← e1] at h3
  have h4 : (n + 2) * d = (n + 1) * d + d := by rw [show n + 2 = n + 1 + 1 from rfl, Nat.add_mul, Nat.one_mul]
  have h5 : (k + 2) * (d + e) = (k + 1) * d + d + (k + 2) * e := by rw [Nat.mul_add, show k + 2 = k + 1 + 1 from rfl, Nat.add_mul (k + 1) 1 d, Nat.one_mul]
  omega
theorem ch_next : ∀ n k, k ≤ n → ch n (k + 1) * (k + 1) = ch n k * (n - k)
 | 0, k, h => by
  obtain rfl : k = 0 := by omega
  rfl
 | n + 1, 0, _ => by
  have := ch_row n 0
  rw [ch_zero] at *
  omega
 | n + 1, k + 1, h => by
  have h1 := ch_row n (k + 1)
  have h2 := ch_row n k
  have h3 := ch_next n k (by omega)
  rw [show n + 1 - (k + 1) = n - k by omega, Nat.mul_comm, ← h1, Nat.mul_comm (ch (n + 1) (k + 1))]
  have e : (k + 1) * ((n - k) * ch (n + 1) (k + 1)) = (k + 1) * ((n + 1) * ch n (k + 1)) := by
   rw [Nat.mul_left_comm, ← h2, Nat.mul_left_comm (k + 1) (n + 1), Nat.mul_comm (k + 1) (ch n (k + 1)), h3, Nat.mul_left_comm, Nat.mul_comm (n - k)]
  exact (Nat.eq_of_mul_eq_mul_left (Nat.succ_pos k) e).symm
theorem ch_div {n k : Nat} (h : k ≤ n) : ch n k * (n - k) / (k + 1) = ch n (k + 1) := by
 rw [← ch_next n k h]
 exact Nat.mul_div_cancel _ (Nat.succ_pos k)
theorem ch_sym : ∀ n k, k ≤ n → ch n (n - k) = ch n k
 | 0, k, h => by
  obtain rfl : k = 0 := by omega
  rfl
 | n + 1, 0, _ => by rw [Nat.sub_zero, ch_self, ch_zero]
 | n + 1, k + 1, h => by
  rcases Nat.lt_or_ge k n with hlt | hge
  ·rw [show n + 1 - (k + 1) = (n - (k + 1)) + 1 by omega, ch, ch, ch_sym n (k + 1) (by omega), show n - (k + 1) + 1 = n - k by omega, ch_sym n k (by omega), Nat.add_comm]
  ·obtain rfl : k = n := by omega
   rw [Nat.sub_self, ch_zero, ch_self]
theorem ch_min {n k : Nat} (h : k ≤ n) : ch n (min k (n - k)) = ch n k := by
 rcases Nat.le_total k (n - k) with h1 | h1
 ·rw [Nat.min_eq_left h1]
 ·rw [Nat.min_eq_right h1, ch_sym n k h]
theorem ch_le2 : ∀ n k, ch n k ≤ 2 ^ n
 | 0, 0 => by decide
 | 0, k + 1 => by simp [ch]
 | n + 1, 0 => by rw [ch_zero]; exact Nat.two_pow_pos _
 | n + 1, k + 1 => by
  have h1 := ch_le2 n k
  have h2 := ch_le2 n (k + 1)
  rw [ch, Nat.pow_succ]; omega
theorem and32 (x : Int) (h0 : 0 ≤ x) (h : x < 18446744073709551616) : bits .and .u64 x 4294967295 = x % 4294967296 := by
 have := u64_and_nat x.toNat 4294967295 (by omega) (by omega)
 rw [show (4294967295 : Nat) = 2 ^ 32 - 1 from rfl, Nat.and_two_pow_sub_one_eq_mod] at this
 have e : (x.toNat : Int) = x := by omega
 rw [e, show ((2 ^ 32 - 1 : Nat) : Int) = 4294967295 from rfl] at this
 rw [this]; omega
theorem mul64_any (x y : Nat) (w : World) (hx : x < 18446744073709551616) (hy : y < 4294967296) (hxy : x * y < 18446744073709551616) :
  Calls Tryz.prog 153 #[.int .u64 x, .int .u64 y] w fun e w' => e = .returned (.tuple #[.int .u64 0, .int .u64 (x * y : Nat)]) ∧ w = w' := by
 have e1 := and32 y (by omega) (by omega)
 have e2 := and32 x (by omega) (by omega)
 have e3 : (y : Int) % 4294967296 = y := by omega
 have e4 : (y : Int) / 4294967296 = 0 := by omega
 rw [e3] at e1
 obtain ⟨a, ha⟩ : ∃ a, a = x / 4294967296 := ⟨_, rfl⟩
 obtain ⟨b, hb⟩ : ∃ b, b = x % 4294967296 := ⟨_, rfl⟩
 have hb2 : b < 4294967296 := by omega
 have hxe : x = a * 4294967296 + b := by omega
 have hp : x * y = a * y * 4294967296 + b * y := by rw [hxe, Nat.add_mul, Nat.mul_assoc, Nat.mul_comm 4294967296 y, ← Nat.mul_assoc]
 have hq : b * y < 4294967296 * 4294967296 := Nat.mul_lt_mul_of_lt_of_le hb2 (by omega) (by omega)
 have f1 : (x : Int) / 4294967296 = a := by omega
 have f2 : (x : Int) % 4294967296 = b := by omega
 have f3 : (x : Int) * y = ((x * y : Nat) : Int) := by simp
 rw [f2] at e2
 have g1 : (a : Int) * y = ((a * y : Nat) : Int) := by simp
 have g2 : (b : Int) * y = ((b * y : Nat) : Int) := by simp
 generalize x * y = m at *
 generalize a * y = p at *
 generalize b * y = q at *
 have e5 := and32 ((p : Int) + q / 4294967296) (by omega) (by omega)
 have e6 : ((p : Int) + q / 4294967296) % 4294967296 = (p : Int) + q / 4294967296 := by omega
 have e7 : ((p : Int) + q / 4294967296) / 4294967296 = 0 := by omega
 rw [e6] at e5
 clear e3 e6 ha hb hp hxe
 go_enter Tryz.func153, Tryz.ntmps153
 go_wp2
 go_ret2
 exact ⟨rfl, rfl⟩
theorem div64_any (x y : Nat) (w : World) (hx : x < 18446744073709551616) (hy : y < 18446744073709551616) (hy0 : 0 < y) :
  Calls Tryz.prog 154 #[.int .u64 0, .int .u64 x, .int .u64 y] w fun e w' => e = .returned (.tuple #[.int .u64 (x / y : Nat), .int .u64 (x % y : Nat)]) ∧ ∃ n, w' = w.drewN n := by
 have h1 : ((y : Int) == 0) = false := by simp; omega
 have h2 : ¬ (y : Int) ≤ 0 := by omega
 have h3 : x / y ≤ x := Nat.div_le_self _ _
 have h4 : IntKind.u64.wrap ((x : Int) / y) = ((x / y : Nat) : Int) := by
  rw [show (x : Int) / y = ((x / y : Nat) : Int) by simp]
  generalize x / y = d at *
  exact IntWalk.u64_in _ (by omega)
 have H4 := J h4
 clear h4
 go_enter Tryz.func154, Tryz.ntmps154
 go_wp2
 go_quiet (fail)
 go_wp2
 go_ret2
 exact ⟨by rw [← H4.out]; simp, _, rfl⟩
theorem choose_any (n k : Nat) (w : World) (hn : n ≤ 50) (hk : k ≤ n) : Calls Tryz.prog 94 #[.int .i64 n, .int .i64 k] w fun e w' => e = .returned (.int .i64 (ch n k : Nat)) ∧ ∃ m, w' = w.drewN m := by
  have i1 := inR_yes (n := (k : Int)) (lo := 0) (hi := n) (by omega)
  have hm := J (ch_min hk)
  obtain ⟨t, ht⟩ : ∃ t : Nat, t = min k (n - k) := ⟨_, rfl⟩
  have htk : t ≤ k := by omega
  rw [← ht] at hm
  by_cases hmin : (n : Int) - (k : Int) < (k : Int)
  all_goals
    first | (have hmn : t = n - k := by omega) | (have hmn : t = k := by omega)
    have HT := J hmn
    clear hmn ht
    go_enter Tryz.func94, Tryz.ntmps94
    go_wp2_with (go_at_call 31; refine (inRange_any _ _ _ _).mono ?_; rintro e w' ⟨rfl, rfl⟩)
    go_loopw [5, 6] (fun out i wr => ∃ j : Nat, j ≤ t ∧ i = .int .i64 ((j : Int) + 1) ∧ out = .int .i64 (ch n j : Nat) ∧ ∃ m, wr = w.drewN m) (fun _ i _ => n + 1 - (intOf i).toNat)
    case atStart => exact ⟨0, by omega, rfl, by rw [ch_zero]; rfl, 0, rfl⟩
    case round =>
      obtain ⟨j, hj, rfl, rfl, m, rfl⟩ := hrel
      by_cases hlt : j < t
      · have hd := J (ch_div (n := n) (k := j) (by omega))
        have hle := ch_le2 n j
        have hp : 2 ^ n ≤ 2 ^ 50 := Nat.pow_le_pow_right (by decide) hn
        have hle2 : ch n (j + 1) ≤ 2 ^ 50 := Nat.le_trans (ch_le2 n (j + 1)) hp
        generalize ch n j = a at *
        have hm2 : a * (n - j) ≤ 2 ^ 50 * 50 := Nat.mul_le_mul (by omega) (by omega)
        have hte := HT.out
        have hlt1 : (j : Int) + 1 ≤ (n : Int) - k := by omega
        have hlt2 : (j : Int) + 1 ≤ k := by omega
        clear hte
        go_wp2_with fail
        rw [show (n : Int) - ((j : Int) + 1) + 1 = ((n - j : Nat) : Int) by omega]
        refine (mul64_any a (n - j) _ (by omega) (by omega) (by omega)).mono ?_
        rintro e w' ⟨rfl, rfl⟩
        generalize a * (n - j) = x at *
        go_wp2_with fail
        rw [show (j : Int) + 1 = ((j + 1 : Nat) : Int) by omega]
        refine (div64_any x (j + 1) _ (by omega) (by omega) (by omega)).mono ?_
        rintro e w' ⟨rfl, m2, rfl⟩
        rw [hd.out]
        generalize hy : ch n (j + 1) = y at *
        have HY := J hy
        clear hy
        go_wp2_with fail
        go_roundw
        case rel => exact ⟨j + 1, by omega, by go_num, by rw [HY.out], m + m2, rfl⟩
        case measure => simp [intOf]; omega
      · obtain rfl : j = t := by omega
        have hte := HT.out
        have hlt1 : ¬ (j : Int) + 1 ≤ (n : Int) - k ∨ ¬ (j : Int) + 1 ≤ k := by omega
        first
          | (have hlt2 : ¬ (j : Int) + 1 ≤ (n : Int) - k := by omega
             clear hte
             go_wp2
             go_ret
             exact ⟨ret_int (by rw [hm.out]), m, rfl⟩)
          | (have hlt2 : ¬ (j : Int) + 1 ≤ k := by omega
             clear hte
             go_wp2
             go_ret
             exact ⟨ret_int (by rw [hm.out]), m, rfl⟩)
end Choose
namespace LvQ
open Choose LvM
theorem ch_pos : ∀ n k, k ≤ n → 0 < ch n k
 | n, 0, _ => by rw [ch_zero]; decide
 | 0, k + 1, h => by omega
 | n + 1, k + 1, h => by
  have := ch_pos n k (by omega)
  rw [ch]; omega
theorem ch_sum : ∀ n, sm (n + 1) (ch n) = 2 ^ n
 | 0 => by simp [sm, ch]
 | n + 1 => by
  have h1 := ch_sum n
  have h2 : sm (n + 2) (ch n) = 2 ^ n := by rw [sm, h1, ch_over n (n + 1) (by omega)]; rfl
  rw [sm_first, ch_zero] at h2
  have h3 : sm (n + 1) (fun i => ch (n + 1) (i + 1)) = sm (n + 1) (fun i => ch n i + ch n (i + 1)) := sm_congr fun i _ => by rw [ch]
  have h4 : sm (n + 1) (fun i => ch n i) = 2 ^ n := h1
  rw [sm_first, ch_zero, h3, sm_add, Nat.pow_succ]
  omega
def onesC (n : Nat) : Cnt := ⟨0, n + 1, ch n⟩
def runsC (n : Nat) : Cnt := ⟨1, n, fun k => 2 * ch (n - 1) k⟩
theorem onesC_ok (n : Nat) : (onesC n).ok n := ⟨Nat.zero_le _, Nat.le_refl _, fun i hi => ch_pos n i (by have : i < n + 1 := hi; omega), ch_sum n⟩
theorem runsC_ok {n : Nat} (hn : 1 ≤ n) : (runsC n).ok n := by
 obtain ⟨n, rfl⟩ : ∃ j, n = j + 1 := ⟨n - 1, by omega⟩
 refine ⟨Nat.le_refl _, Nat.le_succ _, fun i hi => ?_, ?_⟩
 ·have h : i < n + 1 := hi
  have := ch_pos n i (by omega)
  show 0 < 2 * ch (n + 1 - 1) i
  rw [Nat.add_sub_cancel]; omega
 ·show sm (n + 1) (fun k => 2 * ch (n + 1 - 1) k) = _
  rw [sm_mul, Nat.add_sub_cancel, ch_sum, Nat.pow_succ]; omega
end LvQ
namespace LvC
open Go.RowKit Base Mem Choose LvO
end LvC
namespace LvU
open Go.RowKit Base Mem LvM LvO
end LvU
namespace LvL
open Go.RowKit Base Mem MemF GiveM RatM LvM LvQ LvO LvT Blk Choose
def LnRel (C : Cnt) (w : World) (ov : Value) (k : Nat) (wr : World) : Prop :=
 Hid (OwnI wr (w.heap.size + 1) ov (fl k (cz C))) ∧ Hid (Blk wr w.heap.size 60 #[.slice none 0 0, .slice none 0 0]) ∧ Hid (Below w.heap.size w wr)
theorem LnRel.lit {C : Cnt} {w : World} {x : Int} (hx : x = ((cz C 0 : Nat) : Int)) : LnRel C w (.slice (some ⟨w.heap.size + 1, 0, none⟩) 1 1) 1 ((w.alloc (.cells #[.slice none 0 0, .slice none 0 0] 60)).alloc (.cells #[.int .i64 x] 2)) := by
 refine ⟨J ?_, J ((Blk.new w _ _).alloc _), J (((Below.refl _ _).alloc (Nat.le_refl _) _).alloc (by simp) _)⟩
 have := lit1 (w.alloc (.cells #[.slice none 0 0, .slice none 0 0] 60)) (B := w.heap.size + 1) (by simp) (cz C) hx
 simpa using this
theorem LnRel.nil (C : Cnt) (w : World) : LnRel C w (.slice (some ⟨w.heap.size + 1, 0, none⟩) 0 0) 0 ((w.alloc (.cells #[.slice none 0 0, .slice none 0 0] 60)).alloc (.cells #[] 2)) := by
 refine ⟨J ?_, J ((Blk.new w _ _).alloc _), J (((Below.refl _ _).alloc (Nat.le_refl _) _).alloc (by simp) _)⟩
 have := lit0 (w.alloc (.cells #[.slice none 0 0, .slice none 0 0] 60)) (B := w.heap.size + 1) (by simp) (cz C)
 simpa using this
theorem LnRel.next {C : Cnt} {w wr w1 w2 : World} {k : Nat} {v v' : Value} (h : LnRel C w v k wr) (h1 : Below wr.heap.size wr w1)
  (hown : w2.ownsRow (w.heap.size + 1) 2 1 v' (k + 1) (ints (fl k (cz C)) ++ [.int .i64 ((cz C k : Nat) : Int)])) (hg : w1.grownBy w2 v.ownBlock) : LnRel C w v' (k + 1) w2 := by
 obtain ⟨hO, hK, hB⟩ := h
 obtain ⟨p1, p2⟩ := nextI (w0 := wr) hK.out.lt hO.out (Below.refl _ _) h1 hown hg
 exact ⟨J p1, J (hK.out.below p2 (Nat.lt_succ_self _)), J (hB.out.trans (p2.mono (Nat.le_succ _)))⟩
theorem LnRel.row {C : Cnt} {w wr w2 : World} {k : Nat} {v : Value} (h : LnRel C w v k wr) (hb : Below wr.heap.size wr w2) (x : Int) : (w2.alloc (.cells #[.int .i64 x] 2)).ownsRow (w.heap.size + 1) 2 1 v k (ints (fl k (cz C))) := by
 have := World.ownsRow.alloc (OwnI.below h.1.out hb) (.cells #[.int .i64 x] 2)
 rw [fl_len] at this
 exact this
theorem pw_int {n M : Nat} (hn : n ≤ 50) (hM : M = 2 ^ n) : wrap64 ((2 : Int) ^ n) = (M : Int) := by
 have h3 : (2 : Nat) ^ n ≤ 2 ^ 50 := Nat.pow_le_pow_right (by decide) hn
 rw [show (2 : Int) ^ n = ((2 ^ n : Nat) : Int) by simp, ← hM]
 unfold wrap64
 omega
end LvL
namespace Late
open Go.RowKit Base
section
variable {P : Program} {ops : Array Oper} {Q : Exit → Act → World → Prop} {md : Region.Mode} {S : World → Prop} {late : List Nat}
def wpT (P : Program) (md : Region.Mode) (ops : Array Oper) (Q : Exit → Act → World → Prop) (S : World → Prop) (late : List Nat) : Nat → Array Bool → Act → World → Prop
 | 0, listed, a, w => Region.ready md ops listed = [] ∧ Q .normal a w
 | fuel + 1, listed, a, w =>
  (Region.ready md ops listed = [] → Q .normal a w) ∧
  ∀ i ∈ Region.ready md ops listed, wpOp P ops Q i (fun a' w' => (late.contains i = false → S w') ∧ wpT P md ops Q S late fuel (listed.setIfInBounds i true) a' w') a w
theorem wpAny_of : ∀ (fuel : Nat) (listed : Array Bool) (a : Act) (w : World), wpT P md ops Q S late fuel listed a w → wpAny P md ops Q fuel listed a w
 | 0, _, _, _, h => h
 | fuel + 1, _, _, _, h => ⟨h.1, fun i hi => wpOp_mono (fun a' w' h' => wpAny_of fuel _ a' w' h'.2) (h.2 i hi)⟩
def reach (md : Region.Mode) (ops : Array Oper) (i : Nat) : Nat → Nat → Bool
 | 0, _ => false
 | f + 1, j => Region.waitsFor md ops j i || (List.range ops.size).any fun m => Region.waitsFor md ops j m && reach md ops i f m
def waitB (md : Region.Mode) (ops : Array Oper) (late : List Nat) (i : Nat) : Bool := late.all fun j => reach md ops i 7 j
def Closed (md : Region.Mode) (ops : Array Oper) (listed : Array Bool) : Prop := ∀ j oj, ops[j]? = some oj → listed.getD j false = true → ∀ e ∈ oj.after, Region.binds md e = true → listed.getD e.on false = true
def closedB (md : Region.Mode) (ops : Array Oper) (listed : Array Bool) : Bool := (List.range ops.size).all fun j => !listed.getD j false || match ops[j]? with
 | some oj => oj.after.all fun e => !Region.binds md e || listed.getD e.on false
 | none => true
theorem closed_spec {listed : Array Bool} (h : closedB md ops listed = true) : Closed md ops listed := fun j oj hj hl e he hb => by
 have h1 := List.all_eq_true.1 h j (List.mem_range.2 (Array.getElem?_eq_some_iff.1 hj).1)
 simp only [hj, hl, Bool.not_true, Bool.false_or] at h1
 have h2 := Array.all_eq_true_iff_forall_mem.1 h1 e he
 simpa [hb] using h2
theorem Closed.set {listed : Array Bool} {i : Nat} (h : Closed md ops listed) (hi : i ∈ Region.ready md ops listed) : Closed md ops (listed.setIfInBounds i true) := fun j oj hj hl e he hb => by
 obtain ⟨_, oi, hoi, hall⟩ := mem_ready.1 hi
 by_cases hij : i = j
 ·subst hij
  obtain rfl : oj = oi := Option.some.inj (hj.symm.trans hoi)
  exact getD_set_true (hall e he hb)
 ·rw [getD_set_ne false hij] at hl
  exact getD_set_true (h j oj hj hl e he hb)
theorem reach_listed {listed : Array Bool} {i : Nat} (hc : Closed md ops listed) : ∀ (f j : Nat) (oj : Oper), ops[j]? = some oj → reach md ops i f j = true → (∀ e ∈ oj.after, Region.binds md e = true → listed.getD e.on false = true) → listed.getD i false = true
 | 0, _, _, _, h, _ => by cases h
 | f + 1, j, oj, hj, h, hall => by
  have use : ∀ m, Region.waitsFor md ops j m = true → listed.getD m false = true := fun m hm => by
   obtain ⟨oj', hoj', e, he, hb, hon⟩ := Region.waitsFor_spec hm
   obtain rfl : oj' = oj := Option.some.inj (hoj'.symm.trans hj)
   rw [← hon]; exact hall e he hb
  simp only [reach, Bool.or_eq_true] at h
  rcases h with h | h
  ·exact use i h
  ·obtain ⟨m, hm, h2⟩ := List.any_eq_true.1 h
   simp only [Bool.and_eq_true] at h2
   have hlt := List.mem_range.1 hm
   have hmo : ops[m]? = some ops[m] := by simp [hlt]
   exact reach_listed hc f m _ hmo h2.2 (hc m _ hmo (use m h2.1))
theorem first {i : Nat} {oi : Oper} {v : Value} (hi : ops[i]? = some oi) (hsel : ∀ (j : Nat) (o : Oper) cs b, ops[j]? = some o → o.op ≠ .select cs b)
  (hQ : ∀ c a w, Q (.panic c) (a.put oi.dst v) w → Q (.panic c) a w) (hl : waitB md ops late i = true) :
  ∀ (fuel : Nat) (listed : Array Bool) (a : Act) (w : World),
   (∀ j oj, ops[j]? = some oj → j ≠ i → listed.getD j true = false → (∀ e ∈ oj.after, Region.binds md e = true → e.on ≠ i) → oi.apart ops oj = true) →
   i ∈ Region.ready md ops listed → Closed md ops listed → YieldsIf P ops S oi v a → S w →
   wpT P md ops Q S late fuel (listed.setIfInBounds i true) (a.put oi.dst v) w → wpT P md ops Q S late (fuel + 1) listed a w := by
 intro fuel
 induction fuel with
 | zero =>
  intro listed a w _ hr _ hy hS H
  refine ⟨fun h => (by rw [h] at hr; cases hr), fun j hj => ?_⟩
  by_cases hji : j = i
  ·subst hji; exact hy.wpOp hi hS ⟨fun _ => hS, H⟩
  ·have := ready_mono hj hji
   rw [H.1] at this
   cases this
 | succ fuel ih =>
  intro listed a w hfree hr hcl hy hS H
  refine ⟨fun h => (by rw [h] at hr; cases hr), fun j hj => ?_⟩
  by_cases hji : j = i
  ·subst hji; exact hy.wpOp hi hS ⟨fun _ => hS, H⟩
  ·have h1 := H.2 j (ready_mono hj hji)
   obtain ⟨hjun, oj, hoj, hall⟩ := mem_ready.1 hj
   have hun := getD_both (mem_ready.1 hr).1
   have hnot : ∀ e ∈ oj.after, Region.binds md e = true → e.on ≠ i := fun e he hb heq => by
    have h2 := hall e he hb
    rw [heq, hun] at h2
    cases h2
   have hjl : late.contains j = false := by
    cases hc : late.contains j with
    | false => rfl
    | true =>
     have h3 := List.all_eq_true.1 hl j (by simpa using hc)
     have h4 := reach_listed hcl 7 j oj hoj h3 hall
     rw [hun] at h4
     cases h4
   have h2 := wpOp_putIf hoj (hfree j oj hoj hji hjun hnot) (fun cs b => hsel i oi cs b hi) (fun cs b => hsel j oj cs b hoj) hQ hy h1
   have hfree' : ∀ k ok, ops[k]? = some ok → k ≠ i → (listed.setIfInBounds j true).getD k true = false →
     (∀ e ∈ ok.after, Region.binds md e = true → e.on ≠ i) → oi.apart ops ok = true := fun k ok hk hki hu hno => by
    refine hfree k ok hk hki ?_ hno
    by_cases hjk : j = k
    ·subst hjk; exact hjun
    ·rw [getD_set_ne true hjk] at hu; exact hu
   refine wpOp_mono (fun a' w' h3 => ⟨fun _ => h3.2.1 hjl, ih (listed.setIfInBounds j true) a' w' hfree' (ready_mono hr (Ne.symm hji)) (hcl.set hj) h3.1 (h3.2.1 hjl) ?_⟩) h2
   rw [Array.setIfInBounds_comm _ _ hji]
   exact h3.2.2
theorem firstP {i : Nat} {oi : Oper} {v : Value} (hi : ops[i]? = some oi) (hsel : ∀ (j : Nat) (o : Oper) cs b, ops[j]? = some o → o.op ≠ .select cs b)
  (hQ : ∀ c a w, Q (.panic c) (a.put oi.dst v) w → Q (.panic c) a w) (hl : late.contains i = true) :
  ∀ (fuel : Nat) (listed : Array Bool) (a : Act) (w : World),
   (∀ j oj, ops[j]? = some oj → j ≠ i → listed.getD j true = false → (∀ e ∈ oj.after, Region.binds md e = true → e.on ≠ i) → oi.apart ops oj = true) →
   i ∈ Region.ready md ops listed → Yields P ops oi v a →
   wpT P md ops Q S late fuel (listed.setIfInBounds i true) (a.put oi.dst v) w → wpT P md ops Q S late (fuel + 1) listed a w := by
 intro fuel
 induction fuel with
 | zero =>
  intro listed a w _ hr hy H
  refine ⟨fun h => (by rw [h] at hr; cases hr), fun j hj => ?_⟩
  by_cases hji : j = i
  ·subst hji; exact hy.wpOp hi ⟨fun h => (by rw [hl] at h; cases h), H⟩
  ·have := ready_mono hj hji
   rw [H.1] at this
   cases this
 | succ fuel ih =>
  intro listed a w hfree hr hy H
  refine ⟨fun h => (by rw [h] at hr; cases hr), fun j hj => ?_⟩
  by_cases hji : j = i
  ·subst hji; exact hy.wpOp hi ⟨fun h => (by rw [hl] at h; cases h), H⟩
  ·have h1 := H.2 j (ready_mono hj hji)
   obtain ⟨hjun, oj, hoj, hall⟩ := mem_ready.1 hj
   have hun := getD_both (mem_ready.1 hr).1
   have hnot : ∀ e ∈ oj.after, Region.binds md e = true → e.on ≠ i := fun e he hb heq => by
    have h2 := hall e he hb
    rw [heq, hun] at h2
    cases h2
   have h2 := wpOp_put hoj (hfree j oj hoj hji hjun hnot) (fun cs b => hsel i oi cs b hi) (fun cs b => hsel j oj cs b hoj) hQ hy h1
   have hfree' : ∀ k ok, ops[k]? = some ok → k ≠ i → (listed.setIfInBounds j true).getD k true = false →
     (∀ e ∈ ok.after, Region.binds md e = true → e.on ≠ i) → oi.apart ops ok = true := fun k ok hk hki hu hno => by
    refine hfree k ok hk hki ?_ hno
    by_cases hjk : j = k
    ·subst hjk; exact hjun
    ·rw [getD_set_ne true hjk] at hu; exact hu
   refine wpOp_mono (fun a' w' h3 => ⟨h3.2.1, ih (listed.setIfInBounds j true) a' w' hfree' (ready_mono hr (Ne.symm hji)) h3.1 ?_⟩) h2
   rw [Array.setIfInBounds_comm _ _ hji]
   exact h3.2.2
end
section
variable {P : Program} {l : List Oper} {Q : Exit → Act → World → Prop} {md : Region.Mode} {S : World → Prop} {late : List Nat}
theorem take {i : Nat} {oi : Oper} {v : Value} {fuel : Nat} {listed : Array Bool} {a : Act} {w : World} (hi : l[i]? = some oi)
  (hs : Region.noSelect l.toArray = true) (hf : Region.free md l.toArray listed i = true) (hr : (Region.ready md l.toArray listed).contains i = true)
  (hQ : ∀ c a w, Q (.panic c) (a.put oi.dst v) w → Q (.panic c) a w) (hl : waitB md l.toArray late i = true) (hc : closedB md l.toArray listed = true) (hy : YieldsIf P l.toArray S oi v a) (hS : S w)
  (h : wpT P md l.toArray Q S late fuel (listed.setIfInBounds i true) (a.put oi.dst v) w) : wpT P md l.toArray Q S late (fuel + 1) listed a w :=
 first (by simpa using hi) (Region.noSelect_spec hs) hQ hl fuel listed a w (Region.free_spec (by simpa using hi) hf) (by simpa using hr) (closed_spec hc) hy hS h
theorem takeP {i : Nat} {oi : Oper} {v : Value} {fuel : Nat} {listed : Array Bool} {a : Act} {w : World} (hi : l[i]? = some oi)
  (hs : Region.noSelect l.toArray = true) (hf : Region.free md l.toArray listed i = true) (hr : (Region.ready md l.toArray listed).contains i = true)
  (hQ : ∀ c a w, Q (.panic c) (a.put oi.dst v) w → Q (.panic c) a w) (hl : late.contains i = true) (hy : Yields P l.toArray oi v a)
  (h : wpT P md l.toArray Q S late fuel (listed.setIfInBounds i true) (a.put oi.dst v) w) : wpT P md l.toArray Q S late (fuel + 1) listed a w :=
 firstP (by simpa using hi) (Region.noSelect_spec hs) hQ hl fuel listed a w (Region.free_spec (by simpa using hi) hf) (by simpa using hr) hy h
def Step (P : Program) (md : Region.Mode) (l : List Oper) (Q : Exit → Act → World → Prop) (S : World → Prop) (late : List Nat) (fuel : Nat) (listed : Array Bool) (a : Act) (w : World) (i : Nat) (o : Oper) : Prop :=
 ∀ K' : Act → World → Prop, Shut (∀ a w, (late.contains i = false → S w) → ((late.contains i = false → S w) → wpT P md l.toArray Q S late fuel (listed.setIfInBounds i true) a w) → K' a w) →
  if Region.wanted o (yielded l.toArray a.tmps) = true then Oper.wp P o a w K' Q else K' (a.put o.dst undef) w
theorem Step.op {fuel : Nat} {listed : Array Bool} {a : Act} {w : World} {i : Nat} {o : Oper} (ho : l[i]? = some o) (h : Step P md l Q S late fuel listed a w i o) :
  wpOp P l.toArray Q i (fun a' w' => (late.contains i = false → S w') ∧ wpT P md l.toArray Q S late fuel (listed.setIfInBounds i true) a' w') a w :=
 wpOp_step (by simpa using ho) fun K' hK => h K' fun a w hS hW => hK a w ⟨hS, hW hS⟩
theorem one {i : Nat} {o : Oper} {fuel : Nat} {listed : Array Bool} {a : Act} {w : World} (hr : Region.ready md l.toArray listed = [i]) (ho : l[i]? = some o)
  (h : Step P md l Q S late fuel listed a w i o) : wpT P md l.toArray Q S late (fuel + 1) listed a w :=
 ⟨fun h0 => (by rw [h0] at hr; cases hr), fun j hj => by
  rw [hr] at hj
  obtain rfl : j = i := by simpa using hj
  exact h.op ho⟩
theorem two {i i' : Nat} {o o' : Oper} {fuel : Nat} {listed : Array Bool} {a : Act} {w : World} (hr : Region.ready md l.toArray listed = [i, i']) (ho : l[i]? = some o) (ho' : l[i']? = some o')
  (h : Step P md l Q S late fuel listed a w i o) (h' : Step P md l Q S late fuel listed a w i' o') : wpT P md l.toArray Q S late (fuel + 1) listed a w :=
 ⟨fun h0 => (by rw [h0] at hr; cases hr), fun j hj => by
  rw [hr] at hj
  have hj' : j = i ∨ j = i' := by simpa using hj
  rcases hj' with rfl | rfl
  ·exact h.op ho
  ·exact h'.op ho'⟩
theorem done {listed : Array Bool} {a : Act} {w : World} (hr : Region.ready md l.toArray listed = []) (h : Q .normal a w) : ∀ fuel, wpT P md l.toArray Q S late fuel listed a w
 | 0 => ⟨hr, h⟩
 | _ + 1 => ⟨fun _ => h, by rw [hr]; simp⟩
theorem start {id : Nat} {a : Act} {w : World} (S : World → Prop) (late : List Nat) (n : Nat) (hm : P.follows .mixedOrders = true) (hS : S w.drew) (hn : l.length = n)
  (h : S w.drew → wpT P .any l.toArray Q S late n (Array.replicate n false) a w.drew) : (Code.region id l.toArray true).wp P Q a w :=
 wp_region_any hm (by
  have := wpAny_of _ _ _ _ (h hS)
  rw [List.size_toArray, hn]
  exact this)
end
end Late
end Go.Proofs.YtgipnbeipfhekaaGreatDoor

/- The program's naturals: a sum. -/
import Derived.Test.YtcimmgpmkfbpdaaGreatDoorMgStr02
import Derived.Test.YtcimmgpmkfbpdaaGreatDoorMgStr04
namespace Go.Proofs.YtcimmgpmkfbpdaaGreatDoor.Nat32
open Go.RowKit Go.Proofs.YtcimmgpmkfbpdaaGreatDoor Go.Proofs.YtcimmgpmkfbpdaaGreatDoor.Base Go.Proofs.YtcimmgpmkfbpdaaGreatDoor.Mem Go.Proofs.YtcimmgpmkfbpdaaGreatDoor.NatM
set_option linter.unusedVariables false
theorem add_step32 {i z vx vy C x y S : Nat} (h : z + B32 ^ i * C = vx + vy) (hS : S = C + x + y) :
  (z + B32 ^ i * (S % B32)) + B32 ^ (i + 1) * (S / B32) = (vx + B32 ^ i * x) + (vy + B32 ^ i * y) := by
 have h1 := Nat.mod_add_div S B32
 have e1 : B32 ^ (i + 1) * (S / B32) = B32 ^ i * (B32 * (S / B32)) := by rw [Nat.pow_succ, Nat.mul_assoc]
 have e2 : B32 ^ i * (S % B32) + B32 ^ i * (B32 * (S / B32)) = B32 ^ i * C + (B32 ^ i * x + B32 ^ i * y) := by
  rw [← Nat.mul_add, h1, hS, Nat.mul_add, Nat.mul_add]; omega
 rw [e1]; omega
def AddRel (g : Nat) (xs ys : List Nat) (w : World) (iv cv : Value) (wr : World) : Prop :=
 ∃ (i C : Nat) (zs : List Nat), iv = .int .i64 (i : Int) ∧ i ≤ xs.length + 1 ∧ cv = .int .u64 (C : Int) ∧ C ≤ 1 ∧ zs.length = xs.length + 1 ∧ Hid (okN (zs.take i)) ∧ Hid (val (zs.take i) + B32 ^ i * C = val (xs.take i) + val (ys.take i)) ∧ Hid (OwnU wr w.heap.size (.slice (some ⟨g, 0, none⟩) (xs.length + 1) (xs.length + 1)) zs) ∧ Hid (Below w.heap.size w wr)
theorem digit_lt {xs : List Nat} (h : okN xs) (i : Nat) : xs.getD i 0 < B32 := by
 rcases Nat.lt_or_ge i xs.length with hl | hl
 ·exact h _ (by simp [List.getD, hl])
 ·rw [show xs.getD i 0 = 0 by simp [List.getD, hl]]; decide
theorem AddRel.next {g i C S : Nat} {xs ys zs : List Nat} {w wr : World} (hg : g = w.heap.size) (hi : i < xs.length + 1) (hC : C ≤ 1) (hzl : zs.length = xs.length + 1) (hok : okN xs) (hok' : okN ys) (ho : okN (zs.take i)) (hv : val (zs.take i) + B32 ^ i * C = val (xs.take i) + val (ys.take i))
  (hO : OwnU wr w.heap.size (.slice (some ⟨g, 0, none⟩) (xs.length + 1) (xs.length + 1)) zs) (hb : Below w.heap.size w wr) (hS : S = C + xs.getD i 0 + ys.getD i 0) :
  AddRel g xs ys w (.int .i64 ((i : Int) + 1)) (.int .u64 ((S : Int) / 4294967296)) (wr.setCell ⟨g, i, none⟩ (.int .u32 ((S : Int) % 4294967296))) := by
 have hx := digit_lt hok i
 have hy := digit_lt hok' i
 have e1 : ((S % B32 : Nat) : Int) = (S : Int) % 4294967296 := by simp [B32]
 have e2 : ((S / B32 : Nat) : Int) = (S : Int) / 4294967296 := by simp [B32]
 rw [← e1, ← e2]
 obtain ⟨o1, _⟩ := hO.set hzl i (S % B32)
 refine ⟨i + 1, S / B32, zs.set i (S % B32), by go_num, hi, rfl, ?_, by rw [List.length_set]; exact hzl, Lib.hid (okN_set (by omega) ho (Nat.mod_lt _ (by decide))), Lib.hid ?_, Lib.hid o1, Lib.hid (hb.setCell (by show w.heap.size ≤ g; omega) _)⟩
 ·unfold B32 at hx hy ⊢; omega
 ·rw [val_set zs i _ (by omega), val_take_any xs i, val_take_any ys i]
  exact add_step32 hv hS
theorem add_last {P Q M C vz vx vy : Nat} (h : vz + M * C = vx + vy) (hx : vx < P) (hy : vy < Q) (hQ : Q ≤ P) (hM : 2 * P ≤ M) (hC : C ≤ 1) : vz = vx + vy := by
 have h01 : C = 0 ∨ C = 1 := by omega
 rcases h01 with rfl | rfl
 ·rw [Nat.mul_zero] at h; exact h
 ·rw [Nat.mul_one] at h; omega
theorem add_done {xs ys zs : List Nat} {C : Nat} (hok : okN xs) (hok' : okN ys) (hl : ys.length ≤ xs.length) (hC : C ≤ 1) (h : val zs + B32 ^ (xs.length + 1) * C = val xs + val ys) : val zs = val xs + val ys := by
 refine add_last h (val_lt xs hok) (val_lt ys hok') (Nat.pow_le_pow_right (by decide) hl) ?_ hC
 rw [Nat.pow_succ, Nat.mul_comm]
 exact Nat.mul_le_mul_left _ (by decide)
set_option maxHeartbeats 4000000 in
theorem plus_any (A A' : Option Addr) (c c' B B' : Nat) (xs ys : List Nat) (w : World) (hx : RdU w B A xs) (hB : B ≤ w.heap.size) (hy : RdU w B' A' ys) (hB' : B' ≤ w.heap.size) (hok : okN xs) (hok' : okN ys) (hl : xs.length ≤ 4000000) (hl' : ys.length ≤ 4000000) :
  Calls Tryz.prog 131 #[.slice A xs.length c, .slice A' ys.length c'] w (NRet (val xs + val ys) w) := by
 have HX := Lib.hid hx
 have HY := Lib.hid hy
 have HOk := Lib.hid hok
 have HOk' := Lib.hid hok'
 clear hx hy hok hok'
 have start : ∀ us vs : List Nat, us.length ≤ 4000000 → AddRel w.heap.size us vs w (.int .i64 0) (.int .u64 0) (w.alloc (.cells (madeCells #[.int .u32 0] (us.length + 1)) 170)) := fun us vs h =>
  ⟨0, 0, zerosU (us.length + 1), rfl, Nat.zero_le _, rfl, by omega, by simp [zerosU], Lib.hid (by intro y hy; simp at hy), Lib.hid (by simp [val]), Lib.hid (made_own w _ (by omega)), Lib.hid ((Below.refl _ _).alloc (Nat.le_refl _) _)⟩
 by_cases hsw : xs.length < ys.length
 ·have hmk := run_make_row' (P := Tryz.prog) 112 170 (.int .u32 0) 4 Tryz.underlying112 infoU rfl .i64 .i64 (ys.length + 1) (by omega) (by omega)
  have hcast : ((ys.length + 1 : Nat) : Int) = (ys.length : Int) + 1 := by omega
  rw [hcast] at hmk
  have H0 := Lib.hid (start ys xs hl')
  clear start hcast
  go_enter Tryz.func131, Tryz.ntmps131
  go_wp2
  clear hmk
  go_loopw [21, 6] (fun iv cv wr => AddRel w.heap.size ys xs w iv cv wr) (fun iv _ _ => ys.length + 1 - (intOf iv).toNat)
  case atStart => exact H0.out
  case round =>
   obtain ⟨i, C, zs, rfl, hi, rfl, hC, hzl, ho, hv, HO, HBl⟩ := hrel
   clear H0
   by_cases hlt : i < ys.length + 1
   ·have hx1 := digit_lt HOk'.out i
    have hy1 := digit_lt HOk.out i
    obtain ⟨gc, gf⟩ := HO.out.cell hzl i (by omega)
    have HN := Lib.hid (AddRel.next rfl hlt hC hzl HOk'.out HOk.out ho.out hv.out HO.out HBl.out rfl)
    unfold B32 at hx1 hy1
    by_cases hix : i < ys.length
    ·obtain ⟨bb, off, rfl, _, hc⟩ := (HY.out.below HBl.out hB') (by omega)
     have gx := hc i hix
     clear hc
     by_cases hiy : i < xs.length
     ·obtain ⟨bb2, off2, rfl, _, hc2⟩ := (HX.out.below HBl.out hB) (by omega)
      have gy := hc2 i hiy
      clear hc2
      generalize ys.getD i 0 = x at *
      generalize xs.getD i 0 = y at *
      generalize zs.getD i 0 = z at *
      have hcS : ((C + x + y : Nat) : Int) = (C : Int) + (x : Int) + (y : Int) := by omega
      rw [hcS] at HN
      go_wp2
      go_roundw
      case rel => exact HN.out
      case measure => simp [intOf]; omega
     ·have hy0 : xs.getD i 0 = 0 := by
       have : xs.length ≤ i := by omega
       simp [List.getD, this]
      rw [hy0] at HN
      clear hy0
      generalize ys.getD i 0 = x at *
      generalize zs.getD i 0 = z at *
      have hcS : ((C + x + 0 : Nat) : Int) = (C : Int) + (x : Int) := by omega
      rw [hcS] at HN
      go_wp2
      go_roundw
      case rel => exact HN.out
      case measure => simp [intOf]; omega
    ·have hy0 : xs.getD i 0 = 0 := by
      have : xs.length ≤ i := by omega
      simp [List.getD, this]
     have hx0 : ys.getD i 0 = 0 := by
      have : ys.length ≤ i := by omega
      simp [List.getD, this]
     rw [hy0, hx0] at HN
     clear hy0 hx0
     have hiy : ¬ i < xs.length := by omega
     generalize zs.getD i 0 = z at *
     have hcS : ((C + 0 + 0 : Nat) : Int) = (C : Int) := by omega
     have hCm : (C : Int) % 4294967296 = (C : Int) := by omega
     rw [hcS, hCm] at HN
     go_wp2
     go_roundw
     case rel => exact HN.out
     case measure => simp [intOf]; omega
   ·obtain rfl : i = ys.length + 1 := by omega
    have hok2 : okN zs := by have := ho.out; rwa [List.take_of_length_le (by omega)] at this
    have hv2 : val zs = val xs + val ys := by
     have h1 := hv.out
     rw [List.take_of_length_le (by omega), List.take_of_length_le (by omega), List.take_of_length_le (by omega)] at h1
     have h2 := add_done HOk'.out HOk.out (by omega) hC h1
     omega
    have hk := natL_take hok2
    have HT := Lib.hid (trim_any (some ⟨w.heap.size, 0, none⟩) (ys.length + 1) wr.heap.size zs wr HO.out.rd hok2 (by omega) (by omega) (by omega))
    rw [hzl] at HT
    have HR : Hid (NRet (val zs) w (.returned (.slice (some ⟨w.heap.size, 0, none⟩) (natL (val zs)).length (ys.length + 1))) wr) := Lib.hid ⟨some ⟨w.heap.size, 0, none⟩, ys.length + 1, rfl, by have := HO.out.rd.take hk.2; rwa [hk.1] at this, HBl.out⟩
    rw [hv2] at HT HR
    clear hok2 hv2 hk
    go_wp2_with fail
    refine HT.out.mono ?_
    rintro e w1 ⟨rfl, rfl⟩
    go_wp2
    go_ret
    exact HR.out
 ·have hmk := run_make_row' (P := Tryz.prog) 112 170 (.int .u32 0) 4 Tryz.underlying112 infoU rfl .i64 .i64 (xs.length + 1) (by omega) (by omega)
  have hcast : ((xs.length + 1 : Nat) : Int) = (xs.length : Int) + 1 := by omega
  rw [hcast] at hmk
  have H0 := Lib.hid (start xs ys hl)
  clear start hcast
  go_enter Tryz.func131, Tryz.ntmps131
  go_wp2
  clear hmk
  go_loopw [21, 6] (fun iv cv wr => AddRel w.heap.size xs ys w iv cv wr) (fun iv _ _ => xs.length + 1 - (intOf iv).toNat)
  case atStart => exact H0.out
  case round =>
   obtain ⟨i, C, zs, rfl, hi, rfl, hC, hzl, ho, hv, HO, HBl⟩ := hrel
   clear H0
   by_cases hlt : i < xs.length + 1
   ·have hx1 := digit_lt HOk.out i
    have hy1 := digit_lt HOk'.out i
    obtain ⟨gc, gf⟩ := HO.out.cell hzl i (by omega)
    have HN := Lib.hid (AddRel.next rfl hlt hC hzl HOk.out HOk'.out ho.out hv.out HO.out HBl.out rfl)
    unfold B32 at hx1 hy1
    by_cases hix : i < xs.length
    ·obtain ⟨bb, off, rfl, _, hc⟩ := (HX.out.below HBl.out hB) (by omega)
     have gx := hc i hix
     clear hc
     by_cases hiy : i < ys.length
     ·obtain ⟨bb2, off2, rfl, _, hc2⟩ := (HY.out.below HBl.out hB') (by omega)
      have gy := hc2 i hiy
      clear hc2
      generalize xs.getD i 0 = x at *
      generalize ys.getD i 0 = y at *
      generalize zs.getD i 0 = z at *
      have hcS : ((C + x + y : Nat) : Int) = (C : Int) + (x : Int) + (y : Int) := by omega
      rw [hcS] at HN
      go_wp2
      go_roundw
      case rel => exact HN.out
      case measure => simp [intOf]; omega
     ·have hy0 : ys.getD i 0 = 0 := by
       have : ys.length ≤ i := by omega
       simp [List.getD, this]
      rw [hy0] at HN
      clear hy0
      generalize xs.getD i 0 = x at *
      generalize zs.getD i 0 = z at *
      have hcS : ((C + x + 0 : Nat) : Int) = (C : Int) + (x : Int) := by omega
      rw [hcS] at HN
      go_wp2
      go_roundw
      case rel => exact HN.out
      case measure => simp [intOf]; omega
    ·have hy0 : ys.getD i 0 = 0 := by
      have : ys.length ≤ i := by omega
      simp [List.getD, this]
     have hx0 : xs.getD i 0 = 0 := by
      have : xs.length ≤ i := by omega
      simp [List.getD, this]
     rw [hy0, hx0] at HN
     clear hy0 hx0
     have hiy : ¬ i < ys.length := by omega
     generalize zs.getD i 0 = z at *
     have hcS : ((C + 0 + 0 : Nat) : Int) = (C : Int) := by omega
     have hCm : (C : Int) % 4294967296 = (C : Int) := by omega
     rw [hcS, hCm] at HN
     go_wp2
     go_roundw
     case rel => exact HN.out
     case measure => simp [intOf]; omega
   ·obtain rfl : i = xs.length + 1 := by omega
    have hok2 : okN zs := by have := ho.out; rwa [List.take_of_length_le (by omega)] at this
    have hv2 : val zs = val xs + val ys := by
     have h1 := hv.out
     rw [List.take_of_length_le (by omega), List.take_of_length_le (by omega), List.take_of_length_le (by omega)] at h1
     have h2 := add_done HOk.out HOk'.out (by omega) hC h1
     omega
    have hk := natL_take hok2
    have HT := Lib.hid (trim_any (some ⟨w.heap.size, 0, none⟩) (xs.length + 1) wr.heap.size zs wr HO.out.rd hok2 (by omega) (by omega) (by omega))
    rw [hzl] at HT
    have HR : Hid (NRet (val zs) w (.returned (.slice (some ⟨w.heap.size, 0, none⟩) (natL (val zs)).length (xs.length + 1))) wr) := Lib.hid ⟨some ⟨w.heap.size, 0, none⟩, xs.length + 1, rfl, by have := HO.out.rd.take hk.2; rwa [hk.1] at this, HBl.out⟩
    rw [hv2] at HT HR
    clear hok2 hv2 hk
    go_wp2_with fail
    refine HT.out.mono ?_
    rintro e w1 ⟨rfl, rfl⟩
    go_wp2
    go_ret
    exact HR.out
end Go.Proofs.YtcimmgpmkfbpdaaGreatDoor.Nat32
set_option linter.unusedVariables false
namespace Go.Proofs.YtcimmgpmkfbpdaaGreatDoor.RatM
def qv (s : Bool) (n d : Nat) : Rat := if s then -((n : Rat) / (d : Rat)) else (n : Rat) / (d : Rat)
theorem natCast_ne {d : Nat} (h : d ≠ 0) : (d : Rat) ≠ 0 := by
 intro e
 exact h (Rat.natCast_eq_zero_iff.1 e)
theorem qv_mk (s : Bool) (n d : Nat) : qv s n d = if s then -(mkRat n d) else mkRat n d := by
 unfold qv
 rw [Rat.mkRat_eq_div]
 rfl
theorem qv_num (s : Bool) {n d : Nat} (h : d ≠ 0) : (qv s n d).num.natAbs = n / Nat.gcd n d ∧ (qv s n d).den = d / Nat.gcd n d := by
 have h1 : (mkRat (n : Int) d).num = (n : Int) / ((Nat.gcd n d : Nat) : Int) := by
  rw [Rat.num_mkRat, if_neg h, Int.natAbs_natCast, Nat.gcd_comm]
 have h2 : (mkRat (n : Int) d).den = d / Nat.gcd n d := by
  rw [Rat.den_mkRat, if_neg h, Int.natAbs_natCast, Nat.gcd_comm]
 have h3 : (mkRat (n : Int) d).num.natAbs = n / Nat.gcd n d := by
  rw [h1]
  exact congrArg Int.natAbs (Int.natCast_ediv n (Nat.gcd n d)).symm |>.trans (Int.natAbs_natCast _)
 rw [qv_mk]
 cases s
 ·exact ⟨h3, h2⟩
 ·simp only [if_true, Rat.neg_num, Rat.neg_den, Int.natAbs_neg]
  exact ⟨h3, h2⟩
theorem qv_zero (s : Bool) (d : Nat) : qv s 0 d = 0 := by
 unfold qv
 have : ((0 : Nat) : Rat) / (d : Rat) = 0 := by
  show (0 : Rat) / (d : Rat) = 0
  rw [Rat.div_def, Rat.zero_mul]
 rw [this]
 cases s <;> rfl
theorem qv_pos {n d : Nat} (hn : n ≠ 0) (hd : d ≠ 0) : 0 < (n : Rat) / (d : Rat) := by
 rw [Rat.div_def]
 exact Rat.mul_pos (Rat.natCast_pos.2 (Nat.pos_of_ne_zero hn)) (Rat.inv_pos.2 (Rat.natCast_pos.2 (Nat.pos_of_ne_zero hd)))
theorem qv_neg {s : Bool} {n d : Nat} (hn : n ≠ 0) (hd : d ≠ 0) : decide (qv s n d < 0) = s := by
 have h := qv_pos hn hd
 unfold qv
 cases s
 ·simp only [Bool.false_eq_true, if_false, decide_eq_false_iff_not]
  grind
 ·simp only [if_true, decide_eq_true_eq]
  grind
theorem qv_self (q : Rat) : qv (decide (q < 0)) q.num.natAbs q.den = q := by
 have hd := q.den_nz
 rw [qv_mk]
 have hs := Rat.mkRat_self q
 by_cases h : q < 0
 ·have hn : ¬ (0 ≤ q.num) := fun h2 => by
   have := Rat.num_nonneg.1 h2
   grind
  simp only [h, decide_true, if_true]
  rw [Rat.neg_mkRat]
  have : -((q.num.natAbs : Nat) : Int) = q.num := by omega
  rw [this, hs]
 ·have hn : 0 ≤ q.num := Rat.num_nonneg.2 (by grind)
  simp only [h, decide_false, Bool.false_eq_true, if_false]
  have : ((q.num.natAbs : Nat) : Int) = q.num := by omega
  rw [this, hs]
theorem qv_add_same (s : Bool) {n d n' d' : Nat} (h : d ≠ 0) (h' : d' ≠ 0) : qv s (n * d' + n' * d) (d * d') = qv s n d + qv s n' d' := by
 have g := natCast_ne h
 have g' := natCast_ne h'
 unfold qv
 simp only [Rat.natCast_add, Rat.natCast_mul]
 cases s <;> simp only [Bool.false_eq_true, if_false, if_true] <;> grind
theorem qv_add_diff (s : Bool) {n d n' d' : Nat} (h : d ≠ 0) (h' : d' ≠ 0) (hle : n' * d ≤ n * d') : qv s (n * d' - n' * d) (d * d') = qv s n d + qv (!s) n' d' := by
 have g := natCast_ne h
 have g' := natCast_ne h'
 obtain ⟨k, hk⟩ : ∃ k, n * d' = n' * d + k := ⟨n * d' - n' * d, by omega⟩
 have e : n * d' - n' * d = k := by omega
 have hk2 : (n : Rat) * (d' : Rat) = (n' : Rat) * (d : Rat) + (k : Rat) := by
  rw [← Rat.natCast_mul, ← Rat.natCast_mul, ← Rat.natCast_add, hk]
 rw [e]
 unfold qv
 simp only [Rat.natCast_mul]
 cases s <;> simp only [Bool.not_false, Bool.not_true, Bool.false_eq_true, if_false, if_true] <;> grind
theorem qv_mul (s s' : Bool) {n d n' d' : Nat} (h : d ≠ 0) (h' : d' ≠ 0) : qv (s != s') (n * n') (d * d') = qv s n d * qv s' n' d' := by
 have g := natCast_ne h
 have g' := natCast_ne h'
 unfold qv
 simp only [Rat.natCast_mul]
 cases s <;> cases s' <;> simp only [bne_self_eq_false, Bool.false_bne, Bool.true_bne, Bool.not_false, Bool.false_eq_true, if_false, if_true] <;> grind
theorem own_num {s : Bool} {n d : Nat} (hd : d ≠ 0) (hg : Nat.gcd n d = 1) : (qv s n d).num.natAbs = n ∧ (qv s n d).den = d := by
 obtain ⟨h1, h2⟩ := qv_num s (n := n) hd
 rw [h1, h2, hg, Nat.div_one, Nat.div_one]
 exact ⟨rfl, rfl⟩
def qf (n d : Int) : Rat := qv (decide (n < 0)) n.natAbs d.toNat
theorem qf_num {n d : Int} (hd : 0 < d) (hg : Nat.gcd n.natAbs d.toNat = 1) : (qf n d).num = n ∧ ((qf n d).den : Int) = d ∧ (decide (qf n d < 0) = decide (n < 0)) := by
 have hd' : d.toNat ≠ 0 := by omega
 obtain ⟨h1, h2⟩ := own_num (s := decide (n < 0)) hd' hg
 have h3 : decide (qf n d < 0) = decide (n < 0) := by
  by_cases hn : n = 0
  ·subst hn
   unfold qf
   rw [show (0 : Int).natAbs = 0 from rfl, qv_zero]
   rfl
  ·exact qv_neg (by omega) hd'
 refine ⟨?_, by unfold qf; rw [h2]; omega, h3⟩
 have h4 : (qf n d).num.natAbs = n.natAbs := h1
 have h5 : qf n d < 0 ↔ (qf n d).num < 0 := by
  constructor
  ·intro h
   refine Classical.byContradiction fun hc => ?_
   have := Rat.num_nonneg.1 (show 0 ≤ (qf n d).num by omega)
   grind
  ·intro h
   refine Classical.byContradiction fun hc => ?_
   have := Rat.num_nonneg.2 (show 0 ≤ qf n d by grind)
   omega
 have h6 : (qf n d < 0) ↔ n < 0 := by simpa using h3
 have h7 : (qf n d).num < 0 ↔ n < 0 := h5.symm.trans h6
 omega
theorem neg_iff (q : Rat) : q < 0 ↔ q.num < 0 := by
 constructor
 ·intro h
  refine Classical.byContradiction fun hc => ?_
  have := Rat.num_nonneg.1 (show 0 ≤ q.num by omega)
  grind
 ·intro h
  refine Classical.byContradiction fun hc => ?_
  have := Rat.num_nonneg.2 (show 0 ≤ q by grind)
  omega
theorem zero_iff (q : Rat) : q = 0 ↔ q.num.natAbs = 0 := by
 rw [Int.natAbs_eq_zero]
 exact Rat.num_eq_zero.symm
end Go.Proofs.YtcimmgpmkfbpdaaGreatDoor.RatM
namespace Go.Proofs.YtcimmgpmkfbpdaaGreatDoor.Ratio
open Go.RowKit Go.Proofs.YtcimmgpmkfbpdaaGreatDoor Go.Proofs.YtcimmgpmkfbpdaaGreatDoor.Base Go.Proofs.YtcimmgpmkfbpdaaGreatDoor.Mem Go.Proofs.YtcimmgpmkfbpdaaGreatDoor.NatM Go.Proofs.YtcimmgpmkfbpdaaGreatDoor.Nat32 Go.Proofs.YtcimmgpmkfbpdaaGreatDoor.RatM
open Go.Proofs.YtcimmgpmkfbpdaaGreatDoor.Inv (natOf natOf_eq len_pos Rat3 not_slice not_bool frz)
set_option linter.unusedVariables false
theorem natL_mono {x y : Nat} (h : x ≤ y) : (natL x).length ≤ (natL y).length := by
 rcases Nat.lt_or_ge (natL y).length (natL x).length with h1 | h1
 ·have := natL_len_lt h1; omega
 ·exact h1
def ShRel (x y : Nat) (w : World) (av bv : Value) (wr : World) : Prop :=
 ∃ (p q : Nat) (A A' : Option Addr) (c c' : Nat), av = .slice A (natL p).length c ∧ bv = .slice A' (natL q).length c' ∧ (natL p).length ≤ 1000000 ∧ (natL q).length ≤ 1000000 ∧ Hid (Nat.gcd p q = Nat.gcd x y) ∧ Hid (RdU wr wr.heap.size A (natL p)) ∧ Hid (RdU wr wr.heap.size A' (natL q)) ∧ Hid (Below w.heap.size w wr)
set_option maxHeartbeats 2000000 in
theorem sharedG (x y : Nat) (A A' : Option Addr) (c c' : Nat) (w : World) (hx : RdU w w.heap.size A (natL x)) (hy : RdU w w.heap.size A' (natL y)) (hl : (natL x).length ≤ 1000000) (hl' : (natL y).length ≤ 1000000) :
  Calls Tryz.prog 147 #[.slice A (natL x).length c, .slice A' (natL y).length c'] w (NRet (Nat.gcd x y) w) := by
 have H0 : Hid (ShRel x y w (.slice A (natL x).length c) (.slice A' (natL y).length c') w) := Lib.hid ⟨x, y, A, A', c, c', rfl, rfl, hl, hl', Lib.hid rfl, Lib.hid hx, Lib.hid hy, Lib.hid (Below.refl _ _)⟩
 clear hx hy
 go_enter Tryz.func147, Tryz.ntmps147
 go_wp2
 go_loopw [0, 1] (fun av bv wr => ShRel x y w av bv wr) (fun _ bv wr => natOf wr bv)
 case atStart => exact H0.out
 case round =>
  obtain ⟨p, q, A1, A2, c1, c2, rfl, rfl, hp, hq, hg, hr1, hr2, hb⟩ := hrel
  clear H0
  by_cases hpos : 0 < q
  ·have hlq := len_pos hpos
   have HO := Lib.hid (over_any p q A1 A2 c1 c2 wr.heap.size wr.heap.size wr hr1.out (Nat.le_refl _) hr2.out (Nat.le_refl _) (by omega) (by omega) hpos)
   go_wp2_with fail
   refine HO.out.mono ?_
   rintro e w1 ⟨A3, c3, A4, c4, rfl, hr3, hr4, hb2⟩
   clear HO
   have hlt := Nat.mod_lt p hpos
   have HN : Hid (ShRel x y w (.slice A2 (natL q).length c2) (.slice A4 (natL (p % q)).length c4) w1) :=
    Lib.hid ⟨q, p % q, A2, A4, c2, c4, rfl, rfl, hq, Nat.le_trans (natL_mono (Nat.le_of_lt (Nat.mod_lt p hpos))) hq, Lib.hid (by rw [← hg.out, Nat.gcd_comm q, ← Nat.gcd_rec, Nat.gcd_comm]), Lib.hid ((hr2.out.below hb2 (Nat.le_refl _)).more hb2.size), Lib.hid hr4, Lib.hid (hb.out.trans (hb2.mono hb.out.size))⟩
   have HM : Hid (natOf w1 (.slice A4 (natL (p % q)).length c4) < natOf wr (.slice A2 (natL q).length c2)) := Lib.hid (by
    rw [natOf_eq hr4, natOf_eq hr2.out, natL_val, natL_val]; exact hlt)
   clear hr3 hr4 hb2 hlt
   go_wp2
   go_roundw
   case rel => exact HN.out
   case measure => exact HM.out
  ·obtain rfl : q = 0 := by omega
   have hG := hg.out
   rw [Nat.gcd_zero_right] at hG
   rw [natL_zero, List.length_nil]
   have HR : Hid (NRet (Nat.gcd x y) w (.returned (.slice A1 (natL p).length c1)) wr) := Lib.hid ⟨A1, c1, by rw [hG], by rw [← hG]; exact hr1.out, hb.out⟩
   clear hG
   go_wp2
   go_ret
   exact HR.out
def RtRet (s : Bool) (p q : Nat) (w : World) (e : Ending) (w' : World) : Prop := ∃ A c A' c', e = .returned (.agg #[.bool s, .slice A (natL p).length c, .slice A' (natL q).length c']) ∧ RdU w' w'.heap.size A (natL p) ∧ RdU w' w'.heap.size A' (natL q) ∧ Below w.heap.size w w'
set_option maxHeartbeats 2000000 in
theorem lowestG_pos (s : Bool) (v u : Nat) (A A' : Option Addr) (c c' : Nat) (w : World) (hx : RdU w w.heap.size A (natL v)) (hy : RdU w w.heap.size A' (natL u)) (hv : (natL v).length ≤ 1000000) (hu : (natL u).length ≤ 1000000) (hv0 : 0 < v) (hu0 : 0 < u) :
  Calls Tryz.prog 125 #[.agg #[.bool s, .slice A (natL v).length c, .slice A' (natL u).length c']] w (RtRet s (v / Nat.gcd v u) (u / Nat.gcd v u) w) := by
 have hg0 : 0 < Nat.gcd v u := Nat.gcd_pos_of_pos_left u hv0
 have lv := len_pos hv0
 have l3 : (natL (Nat.gcd v u)).length ≤ 1000000 := Nat.le_trans (natL_mono (Nat.gcd_le_left u hv0)) hv
 obtain ⟨W0, hW0⟩ : ∃ W0, W0 = (w.alloc (.cells #[.bool s, .slice A (natL v).length c, .slice A' (natL u).length c'] 114)).alloc (.cells #[.bool false, .slice none 0 0, .slice none 0 0] 114) := ⟨_, rfl⟩
 have hB0 : Below w.heap.size w W0 := by rw [hW0]; exact ((Below.refl _ _).alloc (Nat.le_refl _) _).alloc (by simp) _
 have r1 : Rat3 W0 w.heap.size (.bool s) (.slice A (natL v).length c) (.slice A' (natL u).length c') := by
  rw [hW0]; exact (Rat3.new w _ _ _ _).below ((Below.refl (w.heap.size + 1) _).alloc (by simp) _) (Nat.lt_succ_self _)
 have r2 : Rat3 W0 (w.heap.size + 1) (.bool false) (.slice none 0 0) (.slice none 0 0) := by
  rw [hW0]
  have := Rat3.new (w.alloc (.cells #[.bool s, .slice A (natL v).length c, .slice A' (natL u).length c'] 114)) (.bool false) (.slice none 0 0) (.slice none 0 0) 114
  simpa using this
 have hz0 : w.heap.size + 2 ≤ W0.heap.size := by rw [hW0]; simp
 have hS := Lib.hid (sharedG v u A A' c c' W0 ((hx.below hB0 (Nat.le_refl _)).more hB0.size) ((hy.below hB0 (Nat.le_refl _)).more hB0.size) hv hu)
 have HX := Lib.hid (hx.below hB0 (Nat.le_refl _))
 have HY := Lib.hid (hy.below hB0 (Nat.le_refl _))
 have HB0 := Lib.hid hB0
 clear hx hy hB0
 go_enter Tryz.func125, Tryz.ntmps125
 go_wp2_with fail
 rw [← hW0]
 refine hS.out.mono ?_
 rintro e w1 ⟨A1, c1, rfl, hg1, hb1⟩
 clear hS hW0
 have hz1 := hb1.size
 have q1 := r1.below hb1 (by omega)
 have q2 := r2.below hb1 (by omega)
 have hBw1 : Below w.heap.size w w1 := HB0.out.trans (hb1.mono HB0.out.size)
 have HO := Lib.hid (over_any v (Nat.gcd v u) A A1 c c1 w.heap.size w1.heap.size w1 (HX.out.below hb1 HB0.out.size) (by omega) hg1 (Nat.le_refl _) (by omega) (by omega) hg0)
 have HBw1 := Lib.hid hBw1
 have Hg1 := Lib.hid hg1
 have HY1 := Lib.hid (HY.out.below hb1 HB0.out.size)
 have Q1 := Lib.hid q1
 have Q2 := Lib.hid q2
 obtain ⟨d0, d1, d2, f0, f1, f2⟩ := q1
 clear r1 r2 HX HY HB0 hb1 hg1 hBw1 q2
 go_wp2_with fail
 refine HO.out.mono ?_
 rintro e w2 ⟨A2, c2, A3, c3, rfl, hr2, _, hb2⟩
 clear HO d0 d1 d2 f0 f1 f2
 have hz2 := hb2.size
 have q1 := Q1.out.below hb2 (by omega)
 have q2 := Q2.out.below hb2 (by omega)
 obtain ⟨w3, hw3⟩ : ∃ w3, w3 = w2.setCell ⟨w.heap.size, 1, none⟩ (.slice A2 (natL (v / Nat.gcd v u)).length c2) := ⟨_, rfl⟩
 have hb3 : Below w.heap.size w w3 := by rw [hw3]; exact (HBw1.out.trans (hb2.mono (by omega))).setCell (Nat.le_refl _) _
 have hz3 : w3.heap.size = w2.heap.size := by rw [hw3]; simp
 have t1 : Rat3 w3 w.heap.size (.bool s) (.slice A2 (natL (v / Nat.gcd v u)).length c2) (.slice A' (natL u).length c') := by rw [hw3]; exact q1.set1 _
 have t2 : Rat3 w3 (w.heap.size + 1) (.bool false) (.slice none 0 0) (.slice none 0 0) := by rw [hw3]; exact q2.far (by omega) _
 have hr3 : RdU w3 w3.heap.size A2 (natL (v / Nat.gcd v u)) := by rw [hz3, hw3]; exact hr2.non q1.c1 (not_slice _ _ _) _
 have hg3 : RdU w3 w3.heap.size A1 (natL (Nat.gcd v u)) := by
  rw [hz3, hw3]; exact ((Hg1.out.below hb2 (Nat.le_refl _)).more hb2.size).non q1.c1 (not_slice _ _ _) _
 have hy3 : RdU w3 w3.heap.size A' (natL u) := by
  rw [hz3, hw3]; exact ((HY1.out.below hb2 (by omega)).more (by omega)).non q1.c1 (not_slice _ _ _) _
 have HO := Lib.hid (over_any u (Nat.gcd v u) A' A1 c' c1 w3.heap.size w3.heap.size w3 hy3 (Nat.le_refl _) hg3 (Nat.le_refl _) (by omega) (by omega) hg0)
 have HR3 := Lib.hid hr3
 have HB3 := Lib.hid hb3
 have T1 := Lib.hid t1
 have T2 := Lib.hid t2
 have Hw3 := Lib.hid hw3
 obtain ⟨d0, d1, d2, f0, f1, f2⟩ := q1
 clear hb3 t1 t2 hr3 hg3 hy3 hw3 hr2 hb2 q2 Q1 Q2 Hg1 HY1 HBw1
 go_wp2_with fail
 rw [← Hw3.out]
 refine HO.out.mono ?_
 rintro e w4 ⟨A4, c4, A5, c5, rfl, hr4, _, hb4⟩
 clear HO d0 d1 d2 f0 f1 f2
 have hz4 := hb4.size
 have q1 := T1.out.below hb4 (by omega)
 have q2 := T2.out.below hb4 (by omega)
 have hb5 : Below w.heap.size w w4 := HB3.out.trans (hb4.mono (by omega))
 have hr5 : RdU w4 w4.heap.size A2 (natL (v / Nat.gcd v u)) := (HR3.out.below hb4 (Nat.le_refl _)).more hb4.size
 obtain ⟨s1, hs1⟩ : ∃ s1, s1 = Value.slice A2 (natL (v / Nat.gcd v u)).length c2 := ⟨_, rfl⟩
 obtain ⟨s2, hs2⟩ : ∃ s2, s2 = Value.slice A4 (natL (u / Nat.gcd v u)).length c4 := ⟨_, rfl⟩
 have n5 := q1.set2 s2
 have m5 := q2.far (show w.heap.size ≠ w.heap.size + 1 by omega) (i := 2) s2
 have m6 := m5.set0 (.bool s)
 have m7 := m6.set1 s1
 have m8 := m7.set2 s2
 have n6 := n5.far (show w.heap.size + 1 ≠ w.heap.size by omega) (i := 0) (.bool s)
 have HR : Hid (RtRet s (v / Nat.gcd v u) (u / Nat.gcd v u) w (.returned (.agg #[.bool s, s1, s2])) ((((w4.setCell ⟨w.heap.size, 2, none⟩ s2).setCell ⟨w.heap.size + 1, 0, none⟩ (.bool s)).setCell ⟨w.heap.size + 1, 1, none⟩ s1).setCell ⟨w.heap.size + 1, 2, none⟩ s2)) := Lib.hid (by
  refine ⟨A2, c2, A4, c4, by rw [hs1, hs2], ?_, ?_, ?_⟩
  ·simp only [World.size_setCell]
   exact (((hr5.non q1.c2 (not_slice _ _ _) _).non m5.c0 (not_bool _) _).non m6.c1 (not_slice _ _ _) _).non m7.c2 (not_slice _ _ _) _
  ·simp only [World.size_setCell]
   exact (((hr4.non q1.c2 (not_slice _ _ _) _).non m5.c0 (not_bool _) _).non m6.c1 (not_slice _ _ _) _).non m7.c2 (not_slice _ _ _) _
  ·exact (((hb5.setCell (Nat.le_refl _) _).setCell (Nat.le_succ _) _).setCell (Nat.le_succ _) _).setCell (Nat.le_succ _) _)
 subst hs1 hs2
 obtain ⟨d0, d1, d2, df0, df1, df2⟩ := q1
 obtain ⟨p0, p1, p2, pf0, pf1, pf2⟩ := q2
 obtain ⟨x0, x1, x2, xf0, xf1, xf2⟩ := n5
 obtain ⟨y0, y1, y2, yf0, yf1, yf2⟩ := m5
 obtain ⟨m60, m61, m62, mf60, mf61, mf62⟩ := m6
 obtain ⟨m70, m71, m72, mf70, mf71, mf72⟩ := m7
 obtain ⟨m80, m81, m82, mf80, mf81, mf82⟩ := m8
 clear n6 hb5 hr5 hr4 hb4
 go_wp2
 refine bodyPost_ret (v := .agg #[.bool s, .slice A2 (natL (v / Nat.gcd v u)).length c2, .slice A4 (natL (u / Nat.gcd v u)).length c4]) (by simp [results, Tryz.results125, go_sem, m80, m81, m82]) rfl HR.out
end Go.Proofs.YtcimmgpmkfbpdaaGreatDoor.Ratio
namespace Go.Proofs.YtcimmgpmkfbpdaaGreatDoor.Ratio
open Go.RowKit Go.Proofs.YtcimmgpmkfbpdaaGreatDoor Go.Proofs.YtcimmgpmkfbpdaaGreatDoor.Base Go.Proofs.YtcimmgpmkfbpdaaGreatDoor.Mem Go.Proofs.YtcimmgpmkfbpdaaGreatDoor.NatM Go.Proofs.YtcimmgpmkfbpdaaGreatDoor.Nat32 Go.Proofs.YtcimmgpmkfbpdaaGreatDoor.RatM
open Go.Proofs.YtcimmgpmkfbpdaaGreatDoor.Inv (natOf natOf_eq len_pos Rat3 not_slice not_bool frz)
set_option linter.unusedVariables false
theorem size_int (n : Int) (hn : n.natAbs ≤ 1000000000000000000) (w : World) : Calls Tryz.prog 103 #[.int .i64 n] w fun e w' => e = .returned (.int .i64 ((n.natAbs : Nat) : Int)) ∧ w = w' := by
 have e1 : max n (-n) = ((n.natAbs : Nat) : Int) := by omega
 have hb1 : -1000000000000000000 ≤ n := by omega
 have hb2 : n ≤ 1000000000000000000 := by omega
 go_enter Tryz.func103, Tryz.ntmps103
 go_wp2
 go_ret
 exact ⟨by first | rfl | (rw [e1]; rfl) | (rw [← e1]; rfl) | (simp; omega), rfl⟩
def QF (n d : Int) (w W : World) : Prop := W.cell? ⟨w.heap.size, 0, none⟩ = some (.int .i64 n) ∧ W.cell? ⟨w.heap.size, 1, none⟩ = some (.int .i64 d) ∧ Rat3 W (w.heap.size + 1) (.bool false) (.slice none 0 0) (.slice none 0 0) ∧ Below w.heap.size w W ∧ w.heap.size + 2 ≤ W.heap.size
theorem QF.below {n d : Int} {w W W' : World} (h : QF n d w W) (hb : Below W.heap.size W W') : QF n d w W' := by
 obtain ⟨h1, h2, h3, h4, h5⟩ := h
 exact ⟨(hb.cell (p := ⟨w.heap.size, 0, none⟩) (show w.heap.size < W.heap.size by omega)).trans h1, (hb.cell (p := ⟨w.heap.size, 1, none⟩) (show w.heap.size < W.heap.size by omega)).trans h2, h3.below hb (by omega), h4.trans (hb.mono (by omega)), by have := hb.size; omega⟩
theorem QF.start (n d : Int) (w : World) : QF n d w (((w.alloc (.cells #[.int .i64 n, .int .i64 d] 52)).alloc (.cells #[.bool false, .slice none 0 0, .slice none 0 0] 114)).drew) := by
 have hA : Below (w.alloc (.cells #[.int .i64 n, .int .i64 d] 52)).heap.size (w.alloc (.cells #[.int .i64 n, .int .i64 d] 52)) (((w.alloc (.cells #[.int .i64 n, .int .i64 d] 52)).alloc (.cells #[.bool false, .slice none 0 0, .slice none 0 0] 114)).drew) := ((Below.refl _ _).alloc (Nat.le_refl _) _).drew
 refine ⟨box_cells hA 0, box_cells hA 1, ?_, Base.Below.boxed hA, by simp⟩
 have r := Inv.Rat3.newd (w.alloc (.cells #[.int .i64 n, .int .i64 d] 52)) (.bool false) (.slice none 0 0) (.slice none 0 0) 114
 rw [World.size_alloc] at r
 exact r
set_option maxHeartbeats 2000000 in
theorem ratioOf_any (n d : Int) (hn : n.natAbs ≤ 1000000000000000000) (hd : 0 ≤ d) (hd2 : d ≤ 1000000000000000000) (w : World) : Calls Tryz.prog 70 #[.agg #[.int .i64 n, .int .i64 d]] w (RtRet (decide (n < 0)) n.natAbs d.toNat w) := by
 have HQ := Lib.hid (QF.start n d w)
 go_enter Tryz.func70, Tryz.ntmps70
 go_wp2_with fail
 obtain ⟨L0, hL0⟩ : ∃ L0, natL n.natAbs = L0 := ⟨_, rfl⟩
 obtain ⟨L1, hL1⟩ : ∃ L1, natL d.toNat = L1 := ⟨_, rfl⟩
 obtain ⟨D, rfl⟩ := Int.eq_ofNat_of_zero_le hd
 rw [Int.toNat_natCast] at hL1
 have HSz := Lib.hid (fun W => size_int n hn W)
 have HN0 : Hid (∀ X, QF n (D : Int) w X → Calls Tryz.prog 102 #[.int .i64 ((n.natAbs : Nat) : Int)] X fun e w' => ∃ A c, e = .returned (.slice A L0.length c) ∧ RdU w' w'.heap.size A L0 ∧ QF n (D : Int) w w') := Lib.hid fun X hX => (naturalOf_any n.natAbs (by omega) X).mono fun e w' ⟨A, c, h1, h2, h3⟩ => ⟨A, c, by rw [h1, hL0], by rw [← hL0]; exact h2, hX.below h3⟩
 have HN1 : Hid (∀ X L0 A0, QF n (D : Int) w X → RdU X X.heap.size A0 L0 → Calls Tryz.prog 102 #[.int .i64 (D : Int)] X fun e w' => ∃ A c, e = .returned (.slice A L1.length c) ∧ RdU w' w'.heap.size A L1 ∧ RdU w' w'.heap.size A0 L0 ∧ QF n (D : Int) w w') := Lib.hid fun X L0 A0 hX hr => (naturalOf_any D (by omega) X).mono fun e w' ⟨A, c, h1, h2, h3⟩ => ⟨A, c, by rw [h1, hL1], by rw [← hL1]; exact h2, (hr.below h3 (Nat.le_refl _)).more h3.size, hX.below h3⟩
 have HL0 := Lib.hid hL0
 have HL1 := Lib.hid hL1
 clear hL0 hL1
 generalize n.natAbs = m at *
 go_region_held3 (fun w' => w'.cell? ⟨w.heap.size, 0, none⟩ = some (.int .i64 n) ∧ w'.cell? ⟨w.heap.size, 1, none⟩ = some (.int .i64 (D : Int)))
  (first | go_keep | (exact ⟨by assumption, by assumption⟩))
  (first | (go_at_call 103; refine (HSz.out _).mono ?_; rintro e w1 ⟨rfl, rfl⟩) | (go_at_call 102; refine (HN1.out _ _ _ HQ1.out Hr1.out).mono ?_; rintro e w2 ⟨A2, c2, rfl, hr2, hr1b, hq2⟩; have Hr1b := Lib.hid hr1b; clear hr1b; have Hr2 := Lib.hid hr2; have HQ2 := Lib.hid hq2; clear hr2 d0 d1 p0 p1 p2 pf0 pf1 pf2; have d0 := hq2.1; have d1 := hq2.2.1; have p0 := hq2.2.2.1.c0; have p1 := hq2.2.2.1.c1; have p2 := hq2.2.2.1.c2; have pf0 := hq2.2.2.1.f0; have pf1 := hq2.2.2.1.f1; have pf2 := hq2.2.2.1.f2; clear hq2) | (go_at_call 102; refine (HN0.out _ HQ.out).mono ?_; rintro e w1 ⟨A1, c1, rfl, hr1, hq1⟩; have Hr1 := Lib.hid hr1; clear hr1; have HQ1 := Lib.hid hq1; have d0 := hq1.1; have d1 := hq1.2.1; have p0 := hq1.2.2.1.c0; have p1 := hq1.2.2.1.c1; have p2 := hq1.2.2.1.c2; have pf0 := hq1.2.2.1.f0; have pf1 := hq1.2.2.1.f1; have pf2 := hq1.2.2.1.f2; clear hq1))
 all_goals
  have hq := HQ2.out.2.2.1
  have m6 := hq.set0 (.bool (decide (n < 0)))
  have m7 := m6.set1 (.slice A1 L0.length c1)
  have m8 := m7.set2 (.slice A2 L1.length c2)
  have HR : Hid (RtRet (decide (n < 0)) m D w (.returned (.agg #[.bool (decide (n < 0)), .slice A1 L0.length c1, .slice A2 L1.length c2])) (((w2.setCell ⟨w.heap.size + 1, 0, none⟩ (.bool (decide (n < 0)))).setCell ⟨w.heap.size + 1, 1, none⟩ (.slice A1 L0.length c1)).setCell ⟨w.heap.size + 1, 2, none⟩ (.slice A2 L1.length c2))) := Lib.hid (by
   refine ⟨A1, c1, A2, c2, by rw [HL0.out, HL1.out], ?_, ?_, ?_⟩
   ·rw [HL0.out]
    simp only [World.size_setCell]
    exact ((Hr1b.out.non hq.c0 (not_bool _) _).non m6.c1 (not_slice _ _ _) _).non m7.c2 (not_slice _ _ _) _
   ·rw [HL1.out]
    simp only [World.size_setCell]
    exact ((Hr2.out.non hq.c0 (not_bool _) _).non m6.c1 (not_slice _ _ _) _).non m7.c2 (not_slice _ _ _) _
   ·exact (((HQ2.out.2.2.2.1).setCell (Nat.le_succ _) _).setCell (Nat.le_succ _) _).setCell (Nat.le_succ _) _)
  have m80 := m8.c0
  have m81 := m8.c1
  have m82 := m8.c2
  clear hq m6 m7 m8
  go_wp2
  refine bodyPost_ret (v := .agg #[.bool (decide (n < 0)), .slice A1 L0.length c1, .slice A2 L1.length c2]) (by simp [results, Tryz.results70, go_sem, m80, m81, m82]) rfl HR.out
end Go.Proofs.YtcimmgpmkfbpdaaGreatDoor.Ratio
namespace Go.Proofs.YtcimmgpmkfbpdaaGreatDoor.Ratio
open Go.RowKit Go.Proofs.YtcimmgpmkfbpdaaGreatDoor Go.Proofs.YtcimmgpmkfbpdaaGreatDoor.Base Go.Proofs.YtcimmgpmkfbpdaaGreatDoor.Mem Go.Proofs.YtcimmgpmkfbpdaaGreatDoor.NatM Go.Proofs.YtcimmgpmkfbpdaaGreatDoor.Nat32 Go.Proofs.YtcimmgpmkfbpdaaGreatDoor.RatM
open Go.Proofs.YtcimmgpmkfbpdaaGreatDoor.Inv (natOf natOf_eq len_pos Rat3 not_slice not_bool frz)
set_option linter.unusedVariables false
theorem rt_store {w w1 : World} {b p q : Nat} (s : Bool) {b0 : Bool} {a1 a2 : Option Addr} {n1 k1 n2 k2 : Nat} {A1 A2 : Option Addr} {c1 c2 : Nat} (hr : Rat3 w1 b (.bool b0) (.slice a1 n1 k1) (.slice a2 n2 k2)) (h1 : RdU w1 w1.heap.size A1 (natL p)) (h2 : RdU w1 w1.heap.size A2 (natL q))
  (hb : Below w.heap.size w w1) (hle : w.heap.size ≤ b) :
  Rat3 (w1.setCell ⟨b, 0, none⟩ (.bool s)) b (.bool s) (.slice a1 n1 k1) (.slice a2 n2 k2) ∧
  Rat3 ((w1.setCell ⟨b, 0, none⟩ (.bool s)).setCell ⟨b, 1, none⟩ (.slice A1 (natL p).length c1)) b (.bool s) (.slice A1 (natL p).length c1) (.slice a2 n2 k2) ∧
  Rat3 (((w1.setCell ⟨b, 0, none⟩ (.bool s)).setCell ⟨b, 1, none⟩ (.slice A1 (natL p).length c1)).setCell ⟨b, 2, none⟩ (.slice A2 (natL q).length c2)) b (.bool s) (.slice A1 (natL p).length c1) (.slice A2 (natL q).length c2) ∧
  RtRet s p q w (.returned (.agg #[.bool s, .slice A1 (natL p).length c1, .slice A2 (natL q).length c2])) (((w1.setCell ⟨b, 0, none⟩ (.bool s)).setCell ⟨b, 1, none⟩ (.slice A1 (natL p).length c1)).setCell ⟨b, 2, none⟩ (.slice A2 (natL q).length c2)) := by
 have m6 := hr.set0 (.bool s)
 have m7 := m6.set1 (.slice A1 (natL p).length c1)
 have m8 := m7.set2 (.slice A2 (natL q).length c2)
 refine ⟨m6, m7, m8, A1, c1, A2, c2, rfl, ?_, ?_, ?_⟩
 ·simp only [World.size_setCell]
  exact ((h1.non hr.c0 (not_bool _) _).non m6.c1 (not_slice _ _ _) _).non m7.c2 (not_slice _ _ _) _
 ·simp only [World.size_setCell]
  exact ((h2.non hr.c0 (not_bool _) _).non m6.c1 (not_slice _ _ _) _).non m7.c2 (not_slice _ _ _) _
 ·exact ((hb.setCell hle _).setCell hle _).setCell hle _
set_option maxHeartbeats 1000000 in
theorem whole_any (n : Int) (hn : n.natAbs ≤ 1000000000000000000) (w : World) : Calls Tryz.prog 105 #[.int .i64 n] w (RtRet (decide (n < 0)) n.natAbs 1 w) := by
 obtain ⟨W0, hW0⟩ : ∃ W0, W0 = w.alloc (.cells #[.bool false, .slice none 0 0, .slice none 0 0] 114) := ⟨_, rfl⟩
 have hB0 : Below w.heap.size w W0 := by rw [hW0]; exact (Below.refl _ _).alloc (Nat.le_refl _) _
 have r1 : Rat3 W0 w.heap.size (.bool false) (.slice none 0 0) (.slice none 0 0) := by rw [hW0]; exact Rat3.new w _ _ _ _
 have hz0 : w.heap.size < W0.heap.size := by rw [hW0]; simp
 have HC := Lib.hid (ratioOf_any n 1 hn (by decide) (by decide) W0)
 rw [show (1 : Int).toNat = 1 from rfl] at HC
 generalize n.natAbs = m at *
 go_enter Tryz.func105, Tryz.ntmps105
 go_wp2_with fail
 rw [← hW0]
 refine HC.out.mono ?_
 rintro e w1 ⟨A1, c1, A2, c2, rfl, h1, h2, hb1⟩
 clear hW0 HC
 have q1 := r1.below hb1 hz0
 have hb := hB0.trans (hb1.mono hB0.size)
 clear r1 hb1 hB0 hz0
 obtain ⟨m6, m7, m8, HR⟩ := rt_store (decide (n < 0)) (c1 := c1) (c2 := c2) q1 h1 h2 hb (Nat.le_refl _)
 have HRH := Lib.hid HR
 clear HR
 obtain ⟨d0, d1, d2, df0, df1, df2⟩ := q1
 obtain ⟨m60, m61, m62, mf60, mf61, mf62⟩ := m6
 obtain ⟨m70, m71, m72, mf70, mf71, mf72⟩ := m7
 obtain ⟨m80, m81, m82, mf80, mf81, mf82⟩ := m8
 go_wp2
 refine bodyPost_ret (v := .agg #[.bool (decide (n < 0)), .slice A1 (natL m).length c1, .slice A2 (natL 1).length c2]) (by simp [results, Tryz.results105, go_sem, m80, m81, m82]) rfl HRH.out
set_option maxHeartbeats 1000000 in
theorem lowestG_zero (s : Bool) (A A' : Option Addr) (c n' c' : Nat) (w : World) : Calls Tryz.prog 125 #[.agg #[.bool s, .slice A 0 c, .slice A' n' c']] w (RtRet false 0 1 w) := by
 obtain ⟨W0, hW0⟩ : ∃ W0, W0 = (w.alloc (.cells #[.bool s, .slice A 0 c, .slice A' n' c'] 114)).alloc (.cells #[.bool false, .slice none 0 0, .slice none 0 0] 114) := ⟨_, rfl⟩
 have hB0 : Below w.heap.size w W0 := by rw [hW0]; exact ((Below.refl _ _).alloc (Nat.le_refl _) _).alloc (by simp) _
 have r1 : Rat3 W0 (w.heap.size + 1) (.bool false) (.slice none 0 0) (.slice none 0 0) := by
  rw [hW0]
  have := Rat3.new (w.alloc (.cells #[.bool s, .slice A 0 c, .slice A' n' c'] 114)) (.bool false) (.slice none 0 0) (.slice none 0 0) 114
  simpa using this
 have hz0 : w.heap.size + 1 < W0.heap.size := by rw [hW0]; simp
 have HC := Lib.hid (whole_any 0 (by decide) W0)
 rw [show decide ((0 : Int) < 0) = false from rfl, show (0 : Int).natAbs = 0 from rfl] at HC
 go_enter Tryz.func125, Tryz.ntmps125
 go_wp2_with fail
 rw [← hW0]
 refine HC.out.mono ?_
 rintro e w1 ⟨A1, c1, A2, c2, rfl, h1, h2, hb1⟩
 clear hW0 HC
 have q1 := r1.below hb1 hz0
 have hb := hB0.trans (hb1.mono hB0.size)
 clear r1 hb1 hB0 hz0
 obtain ⟨m6, m7, m8, HR⟩ := rt_store false (c1 := c1) (c2 := c2) q1 h1 h2 hb (Nat.le_succ _)
 have HRH := Lib.hid HR
 clear HR
 obtain ⟨d0, d1, d2, df0, df1, df2⟩ := q1
 obtain ⟨m60, m61, m62, mf60, mf61, mf62⟩ := m6
 obtain ⟨m70, m71, m72, mf70, mf71, mf72⟩ := m7
 obtain ⟨m80, m81, m82, mf80, mf81, mf82⟩ := m8
 go_wp2
 refine bodyPost_ret (v := .agg #[.bool false, .slice A1 (natL 0).length c1, .slice A2 (natL 1).length c2]) (by simp [results, Tryz.results125, go_sem, m80, m81, m82]) rfl HRH.out
def RV (q : Rat) (w : World) (e : Ending) (w' : World) : Prop := RtRet (decide (q < 0)) q.num.natAbs q.den w e w'
theorem RV.of_zero {w w' : World} {e : Ending} (h : RtRet false 0 1 w e w') : RV 0 w e w' := h
theorem RV.of_pos {s : Bool} {v u : Nat} {w w' : World} {e : Ending} (hv : 0 < v) (hu : 0 < u) (h : RtRet s (v / Nat.gcd v u) (u / Nat.gcd v u) w e w') : RV (qv s v u) w e w' := by
 obtain ⟨h1, h2⟩ := qv_num s (n := v) (d := u) (by omega)
 unfold RV
 rw [qv_neg (by omega) (by omega), h1, h2]
 exact h
theorem lowestG (s : Bool) (v u : Nat) (A A' : Option Addr) (c c' : Nat) (w : World) (hx : RdU w w.heap.size A (natL v)) (hy : RdU w w.heap.size A' (natL u)) (hv : (natL v).length ≤ 1000000) (hu : (natL u).length ≤ 1000000) (hu0 : 0 < u) :
  Calls Tryz.prog 125 #[.agg #[.bool s, .slice A (natL v).length c, .slice A' (natL u).length c']] w (RV (qv s v u) w) := by
 rcases Nat.eq_zero_or_pos v with rfl | hv0
 ·rw [natL_zero, List.length_nil, qv_zero]
  exact (lowestG_zero s A A' c _ c' w).mono fun e w' h => RV.of_zero h
 ·exact (lowestG_pos s v u A A' c c' w hx hy hv hu hv0 hu0).mono fun e w' h => RV.of_pos hv0 hu0 h
def szR (q : Rat) : Nat := (natL q.num.natAbs).length + (natL q.den).length
end Go.Proofs.YtcimmgpmkfbpdaaGreatDoor.Ratio

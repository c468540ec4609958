/- The reference's naturals: differences. -/
import Derived.Test.YthagenodiofgnaaGreatMgMix13
import Derived.Test.YthagenodiofgnaaGreatMgMix00
import Derived.Deep.AppendSrc
import Derived.Lib.SliceRun
import Derived.Test.YthagenodiofgnaaGreatMgMix07
namespace Go.Proofs.YthagenodiofgnaaGreat.Big
open Go.RowKit Go.Proofs.YthagenodiofgnaaGreat Go.Proofs.YthagenodiofgnaaGreat.Base Go.Proofs.YthagenodiofgnaaGreat.Mem Go.Proofs.YthagenodiofgnaaGreat.BigM
set_option linter.unusedVariables false
def sLen : Value → Nat
 | .slice _ n _ => n
 | _ => 0
def TrimRel (A : Option Addr) (c : Nat) (xs : List Nat) (ov : Value) : Prop := ∃ n : Nat, n ≤ xs.length ∧ ov = .slice A n c ∧ Hid (val (xs.take n) = val xs)
theorem Dig.cap {w : World} {B n c : Nat} {A : Option Addr} {xs : List Nat} (h : Dig w B (.slice A n c) xs) : n ≤ c ∧ c ≤ 9223372036854775807 := by
 rcases h.2 with ⟨e, _⟩ | ⟨g, cap, cur, e, h1, hh, h2, h3, h4⟩
 ·injection e with e1 e2 e3
  omega
 ·injection e with e1 e2 e3
  subst e3 e2
  unfold maxLen at h3
  exact ⟨h2, h3⟩
theorem trim_end {w wr : World} {B m n c : Nat} {A : Option Addr} {xs : List Nat} (hO : Dig wr B (.slice A m c) xs) (hok : okN xs) (hn : n ≤ xs.length) (hv : val (xs.take n) = val xs) (h : n = 0 ∨ xs.getD (n - 1) 0 ≠ 0) (hb : Below w.heap.size w wr) : BRet (val xs) w (.returned (.slice A n c)) wr := by
 have h1 := trim_done hok hn hv h
 have h2 := hO.take hn
 exact BRet.of h2 h1 hb
def MinusSt (xs ys : List Nat) (i C : Nat) (os : List Nat) : Prop := os.length = i ∧ okN os ∧ val os + val (ys.take i) = val (xs.take i) + D30 ^ i * C ∧ C ≤ 1
def MinusRel (xs ys : List Nat) (w : World) (iv cv ov : Value) (wr : World) : Prop :=
 ∃ (i C : Nat) (os : List Nat), iv = .int .i64 (i : Int) ∧ cv = .int .i64 (C : Int) ∧ i ≤ xs.length ∧ Hid (MinusSt xs ys i C os) ∧ Hid (Dig wr w.heap.size ov os) ∧ Hid (Below w.heap.size w wr)
theorem MinusRel.next {xs ys os : List Nat} {i C C' a b d : Nat} {w wr w3 : World} {v v' : Value} {cs : Array Value} {t : TypeId} (h : MinusSt xs ys i C os) (hi : i < xs.length) (ha : a = xs.getD i 0) (hb : b = ys.getD i 0) (hS : d + b + C = a + D30 * C') (hd : d < D30) (hC : C' ≤ 1)
  (hO : Dig wr w.heap.size v os) (hbl : Below w.heap.size w wr)
  (hown : w3.ownsRow w.heap.size 2 1 v' (os.length + 1) (ints (zs os) ++ [.int .i64 (d : Int)])) (hg : (wr.alloc (.cells cs t)).grownBy w3 v.ownBlock) : MinusRel xs ys w (.int .i64 ((i : Int) + 1)) (.int .i64 (C' : Int)) v' w3 := by
 obtain ⟨h1, h2⟩ := hO.push hbl hown hg
 obtain ⟨k1, k2, k3, k4⟩ := h
 refine ⟨i + 1, C', os ++ [d], by simp, rfl, hi, Lib.hid ⟨by rw [snoc_len, k1], snoc_ok k2 hd, ?_, hC⟩, Lib.hid h1, Lib.hid h2⟩
 rw [val_snoc, val_take_any ys i, val_take_any xs i, k1, ← ha, ← hb]
 exact sub_step k3 hS
theorem minus_done {x y C : Nat} {os : List Nat} (h : MinusSt (bigL x) (bigL y) (bigL x).length C os) (hle : y ≤ x) : val os = x - y := by
 obtain ⟨h1, h2, h3, h4⟩ := h
 have hl := len_mono hle
 rw [List.take_of_length_le hl, List.take_of_length_le (Nat.le_refl _), bigL_val, bigL_val] at h3
 have h5 := val_lt os h2
 rw [h1] at h5
 have h01 : C = 0 ∨ C = 1 := by omega
 rcases h01 with rfl | rfl
 ·omega
 ·omega
set_option maxHeartbeats 4000000 in
set_option maxRecDepth 100000 in
theorem bigMinus_any {x y : Nat} {u v : Value} (w : World) (hx : IsB w x u) (hy : IsB w y v) (hl : (bigL x).length ≤ 4000000) (hle : y ≤ x) : Calls Tryz.prog 84 #[u, v] w (BRet (x - y) w) := by
 obtain ⟨i0, hi, hz0, hz1, hz2⟩ := info_parts infoI
 have HV : Hid (∀ os C, MinusSt (bigL x) (bigL y) (bigL x).length C os → val os = x - y) := Lib.hid (fun os C h => minus_done h hle)
 have hlen2 := len_mono hle
 have HDX := Lib.hid (fun i => okN_at (bigL_ok x) i)
 have HDY := Lib.hid (fun i => okN_at (bigL_ok y) i)
 obtain ⟨A, c, rfl, _⟩ := Dig.form hx
 obtain ⟨A', c', rfl, _⟩ := Dig.form hy
 have HX := Lib.hid (fun wr (hD : Below w.heap.size w wr) i (hi : i < (bigL x).length) => IsB.cell (hx.below hD) hi)
 have HY := Lib.hid (fun wr (hD : Below w.heap.size w wr) i (hi : i < (bigL y).length) => IsB.cell (hy.below hD) hi)
 clear hx hy hle
 generalize bigL x = xs at *
 generalize bigL y = ys at *
 generalize x - y = z at *
 have H0 : Hid (MinusRel xs ys w (.int .i64 0) (.int .i64 0) (.slice (some ⟨w.heap.size, 0, none⟩) 0 0) (w.alloc (.cells #[] 2))) := Lib.hid
  ⟨0, 0, [], rfl, rfl, Nat.zero_le _, Lib.hid ⟨rfl, (fun y hy => by cases hy), by simp [val], Nat.zero_le _⟩, Lib.hid (World.ownsRow_made w #[] 0 (Nat.le_refl _) (Nat.zero_le _) (by simp)), Lib.hid ((Below.refl _ _).alloc (Nat.le_refl _) _)⟩
 go_enter Tryz.func84, Tryz.ntmps84
 go_wp2
 go_loopw [7, 6, 5] (fun iv cv ov wr => MinusRel xs ys w iv cv ov wr) (fun iv _ _ _ => xs.length - (intOf iv).toNat)
 case atStart => exact H0.out
 case round =>
  obtain ⟨i, C, os, rfl, rfl, hil, hst, hO, hb⟩ := hrel
  clear H0
  have hC := hst.out.2.2.2
  have hyl : os.length ≤ 4000000 := by have := hst.out.1; omega
  have hsz := hb.out.size
  by_cases hlt : i < xs.length
  ·have hax := HDX.out i
   have hay := HDY.out i
   unfold D30 at hax hay
   obtain ⟨g, rfl, hca⟩ := HX.out _ hb.out i hlt
   obtain ⟨a, ha⟩ : ∃ a, a = xs.getD i 0 := ⟨_, rfl⟩
   obtain ⟨b, hbd⟩ : ∃ b, b = ys.getD i 0 := ⟨_, rfl⟩
   rw [← ha] at hax hca
   rw [← hbd] at hay
   have HN0 := Lib.hid (fun d C' (hS : d + b + C = a + 1073741824 * C') (hd : d < 1073741824) (hC' : C' ≤ 1) w3 v' cs t hown hg => MinusRel.next (w3 := w3) (v' := v') (cs := cs) (t := t) hst.out hlt ha hbd hS hd hC' hO.out hb.out hown hg)
   by_cases h2 : i < ys.length
   ·obtain ⟨g', rfl, hcb⟩ := HY.out _ hb.out i h2
    rw [← hbd] at hcb
    clear ha hbd
    by_cases h3 : a < b + C
    ·have hng : (a : Int) - (C : Int) - (b : Int) < 0 := by omega
     obtain ⟨d, hd⟩ : ∃ d, d + b + C = a + 1073741824 := ⟨a + 1073741824 - b - C, by omega⟩
     have hdd : (a : Int) - (C : Int) - (b : Int) + 1073741824 = (d : Int) := by omega
     have hdd2 : 1073741824 + ((a : Int) - (C : Int) - (b : Int)) = (d : Int) := by omega
     have HN := Lib.hid (HN0.out d 1 (by omega) (by omega) (by omega))
     clear HN0
     have hown := World.ownsRow.alloc hO.out (.cells #[.int .i64 (d : Int)] 2)
     have HW := Lib.hid hown
     clear hown hO hb hst
     go_wp2_with (at_builtin; refine wpList_append_own_at _ rfl (.tmp 36) (.tmp 38) 64 rfl w.heap.size 2 i0 (.int .i64 0) 1 8 Tryz.underlying64 hi hz0 hz1 hz2 rfl (by decide) _ _ _ rfl HW.out ⟨wr.heap.size, 0, none⟩ 1 1 [.int .i64 (d : Int)] rfl rfl ?p1a ?p2a ?p3a ?p4a ?p5a ?_)
     try case p1a => exact news_one _ _ _ (by simp)
     try case p2a => first | exact one_int | rfl | simp
     try case p3a => first | (simp only [maxLen]; omega) | omega
     try case p4a => omega
     try case p5a => first | (simp only [World.size_alloc]; omega) | omega
     intro v' w3 hown' hg' _ he
     have HN3 := Lib.hid (HN.out w3 v' _ _ hown' hg')
     clear hown' hg' he HN HW
     go_wp2
     go_roundw
     case rel => exact HN3.out
     case measure => simp [intOf]; omega
    ·have hng : ¬ (a : Int) - (C : Int) - (b : Int) < 0 := by omega
     obtain ⟨d, hd⟩ : ∃ d, d + b + C = a := ⟨a - b - C, by omega⟩
     have hdd : (a : Int) - (C : Int) - (b : Int) = (d : Int) := by omega
     have HN := Lib.hid (HN0.out d 0 (by omega) (by omega) (by omega))
     clear HN0 hng
     have hown := World.ownsRow.alloc hO.out (.cells #[.int .i64 (d : Int)] 2)
     have HW := Lib.hid hown
     clear hown hO hb hst
     go_wp2_with (at_builtin; refine wpList_append_own_at _ rfl (.tmp 36) (.tmp 38) 64 rfl w.heap.size 2 i0 (.int .i64 0) 1 8 Tryz.underlying64 hi hz0 hz1 hz2 rfl (by decide) _ _ _ rfl HW.out ⟨wr.heap.size, 0, none⟩ 1 1 [.int .i64 (d : Int)] rfl rfl ?p1a ?p2a ?p3a ?p4a ?p5a ?_)
     try case p1a => exact news_one _ _ _ (by simp)
     try case p2a => first | exact one_int | rfl | simp
     try case p3a => first | (simp only [maxLen]; omega) | omega
     try case p4a => omega
     try case p5a => first | (simp only [World.size_alloc]; omega) | omega
     intro v' w3 hown' hg' _ he
     have HN3 := Lib.hid (HN.out w3 v' _ _ hown' hg')
     clear hown' hg' he HN HW
     go_wp2
     go_roundw
     case rel => exact HN3.out
     case measure => simp [intOf]; omega
   ·have hb0 : b = 0 := by rw [hbd]; exact getD_none (by omega)
    subst hb0
    clear ha hbd
    by_cases h3 : a < C
    ·have hng : (a : Int) - (C : Int) < 0 := by omega
     obtain ⟨d, hd⟩ : ∃ d, d + C = a + 1073741824 := ⟨a + 1073741824 - C, by omega⟩
     have hdd : (a : Int) - (C : Int) + 1073741824 = (d : Int) := by omega
     have HN := Lib.hid (HN0.out d 1 (by omega) (by omega) (by omega))
     clear HN0
     have hown := World.ownsRow.alloc hO.out (.cells #[.int .i64 (d : Int)] 2)
     have HW := Lib.hid hown
     clear hown hO hb hst
     go_wp2_with (at_builtin; refine wpList_append_own_at _ rfl (.tmp 36) (.tmp 38) 64 rfl w.heap.size 2 i0 (.int .i64 0) 1 8 Tryz.underlying64 hi hz0 hz1 hz2 rfl (by decide) _ _ _ rfl HW.out ⟨wr.heap.size, 0, none⟩ 1 1 [.int .i64 (d : Int)] rfl rfl ?p1a ?p2a ?p3a ?p4a ?p5a ?_)
     try case p1a => exact news_one _ _ _ (by simp)
     try case p2a => first | exact one_int | rfl | simp
     try case p3a => first | (simp only [maxLen]; omega) | omega
     try case p4a => omega
     try case p5a => first | (simp only [World.size_alloc]; omega) | omega
     intro v' w3 hown' hg' _ he
     have HN3 := Lib.hid (HN.out w3 v' _ _ hown' hg')
     clear hown' hg' he HN HW
     go_wp2
     go_roundw
     case rel => exact HN3.out
     case measure => simp [intOf]; omega
    ·have hng : ¬ (a : Int) - (C : Int) < 0 := by omega
     obtain ⟨d, hd⟩ : ∃ d, d + C = a := ⟨a - C, by omega⟩
     have hdd : (a : Int) - (C : Int) = (d : Int) := by omega
     have HN := Lib.hid (HN0.out d 0 (by omega) (by omega) (by omega))
     clear HN0 hng
     have hown := World.ownsRow.alloc hO.out (.cells #[.int .i64 (d : Int)] 2)
     have HW := Lib.hid hown
     clear hown hO hb hst
     go_wp2_with (at_builtin; refine wpList_append_own_at _ rfl (.tmp 36) (.tmp 38) 64 rfl w.heap.size 2 i0 (.int .i64 0) 1 8 Tryz.underlying64 hi hz0 hz1 hz2 rfl (by decide) _ _ _ rfl HW.out ⟨wr.heap.size, 0, none⟩ 1 1 [.int .i64 (d : Int)] rfl rfl ?p1a ?p2a ?p3a ?p4a ?p5a ?_)
     try case p1a => exact news_one _ _ _ (by simp)
     try case p2a => first | exact one_int | rfl | simp
     try case p3a => first | (simp only [maxLen]; omega) | omega
     try case p4a => omega
     try case p5a => first | (simp only [World.size_alloc]; omega) | omega
     intro v' w3 hown' hg' _ he
     have HN3 := Lib.hid (HN.out w3 v' _ _ hown' hg')
     clear hown' hg' he HN HW
     go_wp2
     go_roundw
     case rel => exact HN3.out
     case measure => simp [intOf]; omega
  ·obtain rfl : i = xs.length := by omega
   have hlen := Lib.hid hst.out.1
   have Hok := Lib.hid hst.out.2.1
   replace HV := Lib.hid (HV.out os C hst.out)
   obtain ⟨AA, cc, rfl, _⟩ := Dig.form hO.out
   have hcap := Dig.cap hO.out
   have HO := Lib.hid hO.out
   have HB := Lib.hid hb.out
   clear HX HY HDX HDY hst hO hb
   go_wp2
   go_loop [5] (fun ov => TrimRel AA cc os ov) (fun ov => sLen ov)
   case atStart => exact ⟨os.length, Nat.le_refl _, by first | rfl | rw [hlen.out], Lib.hid (by rw [List.take_of_length_le (Nat.le_refl _)])⟩
   case round =>
    obtain ⟨n, hn, rfl, hv⟩ := hrel
    by_cases hpos : 0 < n
    ·obtain ⟨m, rfl⟩ : ∃ m, n = m + 1 := ⟨n - 1, by omega⟩
     obtain ⟨g, hg0, _, _, hcell⟩ := Dig.cell HO.out (show m < os.length by omega)
     first | subst hg0 | (injection hg0 with hg0; injection hg0 with hg0 _ _; subst hg0)
     have hmc : ((m : Int) ≤ ((cc : Nat) : Int)) := by have := hcap; omega
     by_cases hz : os.getD m 0 = 0
     ·have HN := Lib.hid (trim_step hn hv.out hz)
      rw [hz] at hcell
      clear hz
      go_wp2
      go_round
      case rel => exact ⟨m, by omega, by first | rfl | simp, HN⟩
      case measure => simp [sLen]
     ·have HR := Lib.hid (trim_end HO.out Hok.out hn hv.out (.inr (by simpa using hz)) HB.out)
      have hzb : (((os.getD m 0 : Nat) : Int) == 0) = false := by simp only [beq_eq_false_iff_ne]; omega
      clear hz
      generalize os.getD m 0 = y at *
      go_wp2
      go_ret
      rw [← HV.out]
      exact HR.out
    ·obtain rfl : n = 0 := by omega
     have HR := Lib.hid (trim_end HO.out Hok.out hn hv.out (.inl rfl) HB.out)
     go_wp2
     go_ret
     rw [← HV.out]
     exact HR.out
end Go.Proofs.YthagenodiofgnaaGreat.Big
namespace Go.Proofs.YthagenodiofgnaaGreat.Big
open Go.RowKit Go.Proofs.YthagenodiofgnaaGreat Go.Proofs.YthagenodiofgnaaGreat.Base Go.Proofs.YthagenodiofgnaaGreat.Mem Go.Proofs.YthagenodiofgnaaGreat.BigM
set_option linter.unusedVariables false
def zeros (n : Nat) : List Nat := List.replicate n 0
theorem made_own (w : World) (n : Nat) (hn : n ≤ 10000000) : Dig (w.alloc (.cells (madeCells #[.int .i64 0] n) 2)) w.heap.size (.slice (some ⟨w.heap.size, 0, none⟩) n n) (zeros n) := by
 have := World.ownsRow_lit (e := 2) (size := 1) (base := w.heap.size) w (madeCells #[.int .i64 0] n) n (Nat.le_refl _) (by simp [maxLen]; omega) (by simp [size_madeCells])
 rw [toList_madeCells_one] at this
 unfold Dig zeros
 rw [List.length_replicate, show ints (zs (List.replicate n 0)) = List.replicate n (.int .i64 0) by simp [zs, ints]]
 exact this
theorem Dig.set {w : World} {B g n c : Nat} {xs : List Nat} (h : Dig w B (.slice (some ⟨g, 0, none⟩) n c) xs) (hn : xs.length = n) (i x : Nat) :
  Dig (w.setCell ⟨g, i, none⟩ (.int .i64 (x : Int))) B (.slice (some ⟨g, 0, none⟩) n c) (xs.set i x) := by
 subst hn
 obtain ⟨h1, h2⟩ := World.ownsRow.stored h i (.int .i64 (x : Int))
 unfold Dig
 rw [List.length_set]
 have e : ints (zs (xs.set i x)) = (ints (zs xs)).set i (.int .i64 (x : Int)) := by simp [zs, ints, List.map_set]
 rw [e]
 exact h1
theorem Dig.at {w : World} {B g n c : Nat} {xs : List Nat} (h : Dig w B (.slice (some ⟨g, 0, none⟩) n c) xs) (hn : xs.length = n) (i : Nat) (hi : i < n) : w.cell? ⟨g, i, none⟩ = some (.int .i64 ((xs.getD i 0 : Nat) : Int)) ∧ w.frozen? ⟨g, i, none⟩ = false := by
 subst hn
 obtain ⟨g', e, _, _, h4⟩ := Dig.cell h hi
 injection e with e
 injection e with e1 _ _
 subst e1
 exact ⟨h4, World.ownsRow.frozenAt h i⟩
def MulSt (xs ys : List Nat) (i : Nat) (os : List Nat) : Prop := os.length = xs.length + ys.length ∧ okN os ∧ val os = val (xs.take i) * val ys
def MulRel (xs ys : List Nat) (w : World) (iv : Value) (wr : World) : Prop :=
 ∃ (i : Nat) (os : List Nat), iv = .int .i64 (i : Int) ∧ i ≤ xs.length ∧ Hid (MulSt xs ys i os) ∧ Hid (Dig wr w.heap.size (.slice (some ⟨w.heap.size, 0, none⟩) (xs.length + ys.length) (xs.length + ys.length)) os) ∧ Hid (Below w.heap.size w wr)
def RowSt (xs ys : List Nat) (i x V0 k C : Nat) (os : List Nat) : Prop := os.length = xs.length + ys.length ∧ okN os ∧ val os + D30 ^ (i + k) * C = V0 + x * D30 ^ i * val (ys.take k) ∧ C < D30
def RowRel (xs ys : List Nat) (i x V0 : Nat) (w : World) (kv cv : Value) (wr : World) : Prop :=
 ∃ (k C : Nat) (os : List Nat), kv = .int .i64 (k : Int) ∧ cv = .int .i64 (C : Int) ∧ i + k ≤ xs.length + ys.length ∧ Hid (RowSt xs ys i x V0 k C os) ∧ Hid (Dig wr w.heap.size (.slice (some ⟨w.heap.size, 0, none⟩) (xs.length + ys.length) (xs.length + ys.length)) os) ∧ Hid (Below w.heap.size w wr)
theorem RowSt.room {xs ys os : List Nat} {i x V0 k C : Nat} (hok : okN xs) (hok' : okN ys) (hi : i < xs.length) (hx : x = xs.getD i 0) (hV : V0 = val (xs.take i) * val ys) (h : RowSt xs ys i x V0 k C os) (hk : k < ys.length ∨ 0 < C) : i + k < xs.length + ys.length := by
 rcases hk with hk | hC
 ·omega
 ·rcases Nat.lt_or_ge k ys.length with hk | hk
  ·omega
  ·obtain ⟨_, _, h3, _⟩ := h
   rw [List.take_of_length_le hk, hV] at h3
   have e : val (xs.take (i + 1)) = val (xs.take i) + D30 ^ i * x := by rw [val_take_any, hx]
   have e2 : val (xs.take i) * val ys + x * D30 ^ i * val ys = val (xs.take (i + 1)) * val ys := by rw [e, Nat.add_mul, Nat.mul_comm x]
   rw [e2] at h3
   have l1 := val_lt _ (okN_take hok (i + 1))
   rw [List.length_take, Nat.min_eq_left (by omega)] at l1
   have l2 := val_lt _ hok'
   have l3 : val (xs.take (i + 1)) * val ys < D30 ^ (i + 1 + ys.length) := by
    rw [Nat.pow_add]
    rcases Nat.eq_zero_or_pos (val ys) with h0 | h0
    ·rw [h0, Nat.mul_zero]; exact Nat.mul_pos (by omega) (by omega)
    ·exact Nat.lt_of_lt_of_le ((Nat.mul_lt_mul_right h0).2 l1) (Nat.mul_le_mul_left _ (by omega))
   have l4 : D30 ^ (i + k) ≤ D30 ^ (i + k) * C := Nat.le_mul_of_pos_right _ hC
   have l5 : D30 ^ (i + k) < D30 ^ (i + 1 + ys.length) := by omega
   have := (Nat.pow_lt_pow_iff_right (show 1 < D30 by decide)).1 l5
   omega
theorem RowRel.next {xs ys os : List Nat} {i x V0 k C S M : Nat} {w wr : World} (hx : x < D30) (hok' : okN ys) (hr : i + k < xs.length + ys.length) (h : RowSt xs ys i x V0 k C os) (hO : Dig wr w.heap.size (.slice (some ⟨w.heap.size, 0, none⟩) (xs.length + ys.length) (xs.length + ys.length)) os) (hb : Below w.heap.size w wr) (hM : M = x * ys.getD k 0) (hS : S = C + (os.getD (i + k) 0 + M)) :
  RowRel xs ys i x V0 w (.int .i64 ((k : Int) + 1)) (.int .i64 ((S / D30 : Nat) : Int)) (wr.setCell ⟨w.heap.size, i + k, none⟩ (.int .i64 ((S % D30 : Nat) : Int))) := by
 obtain ⟨k1, k2, k3, k4⟩ := h
 have o1 := hO.set k1 (i + k) (S % D30)
 have hyk := okN_at hok' k
 have hz1 := okN_at k2 (i + k)
 have hMle : M ≤ (D30 - 1) * (D30 - 1) := by rw [hM]; exact Nat.mul_le_mul (by omega) (by omega)
 have hSlt : S / D30 < D30 := by
  rw [Nat.div_lt_iff_lt_mul (by decide)]
  unfold D30 at *
  omega
 refine ⟨k + 1, S / D30, os.set (i + k) (S % D30), by simp, rfl, by omega, Lib.hid ⟨by rw [List.length_set]; exact k1, okN_setw k2 (Nat.mod_lt _ (by decide)), ?_, hSlt⟩, Lib.hid o1, Lib.hid (hb.setCell (Nat.le_refl _) _)⟩
 rw [val_take_any ys k]
 exact mul_step k3 (by rw [hS, hM]) (val_setw os (i + k) _ (by omega))
theorem MulRel.next {xs ys os : List Nat} {i x V0 k : Nat} {w wr : World} (hi : i < xs.length) (hx : x = xs.getD i 0) (hV : V0 = val (xs.take i) * val ys) (hk : ys.length ≤ k) (h : RowSt xs ys i x V0 k 0 os) (hO : Dig wr w.heap.size (.slice (some ⟨w.heap.size, 0, none⟩) (xs.length + ys.length) (xs.length + ys.length)) os) (hb : Below w.heap.size w wr) :
  MulRel xs ys w (.int .i64 ((i : Int) + 1)) wr := by
 obtain ⟨k1, k2, k3, k4⟩ := h
 refine ⟨i + 1, os, by simp, hi, Lib.hid ⟨k1, k2, ?_⟩, Lib.hid hO, Lib.hid hb⟩
 rw [List.take_of_length_le hk, Nat.mul_zero, Nat.add_zero, hV] at k3
 rw [k3, val_take_any xs i, ← hx, Nat.add_mul, Nat.mul_comm x]
set_option maxHeartbeats 4000000 in
set_option maxRecDepth 100000 in
theorem bigTimes_any {x y : Nat} {u v : Value} (w : World) (hx : IsB w x u) (hy : IsB w y v) (hl : (bigL x).length ≤ 1000000) (hl' : (bigL y).length ≤ 1000000) : Calls Tryz.prog 36 #[u, v] w (BRet (x * y) w) := by
 have HVX := Lib.hid (bigL_val x)
 have HVY := Lib.hid (bigL_val y)
 have HOX := Lib.hid (bigL_ok x)
 have HOY := Lib.hid (bigL_ok y)
 obtain ⟨A, c, rfl, _⟩ := Dig.form hx
 obtain ⟨A', c', rfl, _⟩ := Dig.form hy
 have HX := Lib.hid (fun wr (hD : Below w.heap.size w wr) i (hi : i < (bigL x).length) => IsB.cell (hx.below hD) hi)
 have HY := Lib.hid (fun wr (hD : Below w.heap.size w wr) i (hi : i < (bigL y).length) => IsB.cell (hy.below hD) hi)
 clear hx hy
 generalize bigL x = xs at *
 generalize bigL y = ys at *
 have hmk := run_make_row' (P := Tryz.prog) 64 2 (.int .i64 0) 8 Tryz.underlying64 infoI rfl .i64 .i64 (xs.length + ys.length) (by omega) (by omega)
 have hcast : ((xs.length + ys.length : Nat) : Int) = (xs.length : Int) + (ys.length : Int) := by omega
 rw [hcast] at hmk
 have H0 : Hid (MulRel xs ys w (.int .i64 0) (w.alloc (.cells (madeCells #[.int .i64 0] (xs.length + ys.length)) 2))) :=
  Lib.hid ⟨0, zeros (xs.length + ys.length), rfl, Nat.zero_le _, Lib.hid ⟨by simp [zeros], okN_zeros _, by rw [zeros, val_zeros]; simp [val]⟩, Lib.hid (made_own w _ (by omega)), Lib.hid ((Below.refl _ _).alloc (Nat.le_refl _) _)⟩
 clear hcast
 go_enter Tryz.func36, Tryz.ntmps36
 go_wp2
 clear hmk
 go_loopw [6] (fun iv wr => MulRel xs ys w iv wr) (fun iv _ => xs.length - (intOf iv).toNat)
 case atStart => exact H0.out
 case round =>
  obtain ⟨i, os, rfl, hi, hst, HO, HB⟩ := hrel
  clear H0
  by_cases hlt : i < xs.length
  ·have hx1 := okN_at HOX.out i
   obtain ⟨gx, rfl, hcx⟩ := HX.out _ HB.out i hlt
   obtain ⟨x1, hx1e⟩ : ∃ x1, x1 = xs.getD i 0 := ⟨_, rfl⟩
   rw [← hx1e] at hx1
   obtain ⟨V0, hV0⟩ : ∃ V0, V0 = val (xs.take i) * val ys := ⟨_, rfl⟩
   have HR0 : Hid (RowRel xs ys i x1 V0 w (.int .i64 0) (.int .i64 0) wr) := Lib.hid
    ⟨0, 0, os, rfl, rfl, by omega, Lib.hid ⟨hst.out.1, hst.out.2.1, by rw [hst.out.2.2, ← hV0]; simp [val], by decide⟩, HO, HB⟩
   have HX1 := Lib.hid hx1
   have HXE := Lib.hid hx1e
   have HV0 := Lib.hid hV0
   clear hV0 hx1e hx1 hcx hst HO HB
   go_wp2
   go_loopw [8, 7] (fun kv cv wr => RowRel xs ys i x1 V0 w kv cv wr) (fun kv _ _ => xs.length + ys.length + 1 - (intOf kv).toNat)
   case atStart => exact HR0.out
   case round =>
    obtain ⟨k, C, os, rfl, rfl, hkl, hst, HO, HB⟩ := hrel
    clear HR0
    by_cases hgo : k < ys.length ∨ 0 < C
    ·have hroom := RowSt.room HOX.out HOY.out hlt HXE.out HV0.out hst.out hgo
     obtain ⟨gc, gf⟩ := HO.out.at hst.out.1 (i + k) hroom
     have hz1 := okN_at hst.out.2.1 (i + k)
     have hC := hst.out.2.2.2
     have hx1 := HX1.out
     have hy1 := okN_at HOY.out k
     obtain ⟨gx', e, hcx⟩ := HX.out _ HB.out i hlt
     injection e with e
     injection e with e1 _ _
     subst e1
     rw [← HXE.out] at hcx
     obtain ⟨M, hM⟩ : ∃ M, M = x1 * ys.getD k 0 := ⟨_, rfl⟩
     have hMle : M ≤ 1073741823 * 1073741823 := by rw [hM]; exact Nat.mul_le_mul (by unfold D30 at hx1; omega) (by unfold D30 at hy1; omega)
     obtain ⟨S, hS⟩ : ∃ S, S = C + (os.getD (i + k) 0 + M) := ⟨_, rfl⟩
     have HN := Lib.hid (fun nq => RowRel.next (wr := wr.drewN nq) HX1.out HOY.out hroom hst.out (HO.out.below (below_drewN (Below.refl _ _) nq)) (below_drewN HB.out nq) hM hS)
     unfold D30 at hz1 hC hx1 hy1
     by_cases hk : k < ys.length
     ·obtain ⟨gy, rfl, hcy⟩ := HY.out _ HB.out k hk
      have hmul : (x1 : Int) * ((ys.getD k 0 : Nat) : Int) = (M : Int) := by rw [hM]; simp
      clear hM hst HO HB hgo
      generalize ys.getD k 0 = y1 at *
      generalize os.getD (i + k) 0 = z at *
      have hand := and30 S (by omega)
      have hcS : (S : Int) = (C : Int) + (z : Int) + (M : Int) := by omega
      rw [hcS] at hand
      have hdiv : ((C : Int) + (z : Int) + (M : Int)) / 1073741824 = ((S / D30 : Nat) : Int) := by rw [← hcS]; simp [D30]
      unfold D30 at HN hdiv
      generalize S % 1073741824 = d at *
      generalize S / 1073741824 = q at *
      clear hS
      go_wp2
      go_quiet (fail)
      go_wp2
      go_roundw
      case rel => exact HN.out _
      case measure => simp [intOf]; omega
     ·have hy0 : ys.getD k 0 = 0 := getD_none (by omega)
      rw [hy0, Nat.mul_zero] at hM
      subst hM
      have hC0 : 0 < C := by omega
      clear hy0 hst HO HB hgo hy1
      generalize os.getD (i + k) 0 = z at *
      have hand := and30 S (by omega)
      have hcS : (S : Int) = (C : Int) + (z : Int) := by omega
      rw [hcS] at hand
      have hdiv : ((C : Int) + (z : Int)) / 1073741824 = ((S / D30 : Nat) : Int) := by rw [← hcS]; simp [D30]
      unfold D30 at HN hdiv
      generalize S % 1073741824 = d at *
      generalize S / 1073741824 = q at *
      clear hS
      go_wp2
      go_roundw
      case rel => exact HN.out 0
      case measure => simp [intOf]; omega
    ·have hk : ¬ k < ys.length := by omega
     obtain rfl : C = 0 := by omega
     have HN := Lib.hid (MulRel.next hlt HXE.out HV0.out (by omega) hst.out HO.out HB.out)
     clear hgo hst HO HB
     go_wp2
     go_roundw
     case rel => exact HN.out
     case measure => simp [intOf]; omega
  ·obtain rfl : i = xs.length := by omega
   have hlen := Lib.hid hst.out.1
   have Hok := Lib.hid hst.out.2.1
   have HV : Hid (val os = x * y) := Lib.hid (by rw [hst.out.2.2, List.take_of_length_le (Nat.le_refl _), HVX.out, HVY.out])
   have hcap := Dig.cap HO.out
   have HOL1 : os.length ≤ xs.length + ys.length := by rw [hlen.out]; exact Nat.le_refl _
   have HOL2 : xs.length + ys.length ≤ os.length := by rw [hlen.out]; exact Nat.le_refl _
   clear hst HX HY
   go_wp2
   go_loop [5] (fun ov => TrimRel (some ⟨w.heap.size, 0, none⟩) (xs.length + ys.length) os ov) (fun ov => sLen ov)
   case atStart => exact ⟨os.length, Nat.le_refl _, by first | rfl | rw [hlen.out], Lib.hid (by rw [List.take_of_length_le (Nat.le_refl _)])⟩
   case round =>
    obtain ⟨n, hn, rfl, hv⟩ := hrel
    by_cases hpos : 0 < n
    ·obtain ⟨m, rfl⟩ : ∃ m, n = m + 1 := ⟨n - 1, by omega⟩
     obtain ⟨g, hg0, _, _, hcell⟩ := Dig.cell HO.out (show m < os.length by omega)
     first | subst hg0 | (injection hg0 with hg0; injection hg0 with hg0 _ _; subst hg0)
     have hmc : ((m : Int) ≤ (((xs.length + ys.length) : Nat) : Int)) := by have := hcap; omega
     by_cases hz : os.getD m 0 = 0
     ·have HN := Lib.hid (trim_step hn hv.out hz)
      rw [hz] at hcell
      clear hz
      go_wp2
      go_round
      case rel => exact ⟨m, by omega, by first | rfl | simp, HN⟩
      case measure => simp [sLen]
     ·have HR := Lib.hid (trim_end HO.out Hok.out hn hv.out (.inr (by simpa using hz)) HB.out)
      have hzb : (((os.getD m 0 : Nat) : Int) == 0) = false := by simp only [beq_eq_false_iff_ne]; omega
      clear hz
      generalize os.getD m 0 = y at *
      go_wp2
      go_ret
      rw [← HV.out]
      exact HR.out
    ·obtain rfl : n = 0 := by omega
     have HR := Lib.hid (trim_end HO.out Hok.out hn hv.out (.inl rfl) HB.out)
     go_wp2
     go_ret
     rw [← HV.out]
     exact HR.out
end Go.Proofs.YthagenodiofgnaaGreat.Big
namespace Go.Proofs.YthagenodiofgnaaGreat.AppG
open Go.RowKit Go.Proofs.YthagenodiofgnaaGreat Go.Proofs.YthagenodiofgnaaGreat.Base Go.Proofs.YthagenodiofgnaaGreat.Mem
set_option linter.unusedVariables false
theorem run_append_none_gen (w : World) (base : Nat) (v : Value) (n : Nat) (xs : List Value) (ts e : TypeId) (size : Nat) (i0 : TypeInfo) (ht : Tryz.prog.underlying ts = some (.slice e)) (hi : Tryz.prog.info? e = some i0) (hown : w.ownsRow base e size v n xs) (ty : TypeId) (c : Nat) :
  (Builtin.append_ #[ts, ts] ty #[v, .slice none 0 c]).run Tryz.prog w = .ok v w := by
 rcases hown.2 with ⟨rfl, rfl⟩ | ⟨g, cap, cur, rfl, hbg, hg, hnc, hcm, hcs, htake⟩
 ·simp [Builtin.append_, run_underlying ht, sizeOf, typeInfo, hi, Builtin.lenOf, Builtin.firstCells]
 ·have := run_append_room_src (P := Tryz.prog) w ts ts ty e i0 ht hi g 0 n cap (.slice none 0 c) 0 [] (Src.ofNil w ht c) (by omega) (fun j hj => absurd hj (Nat.not_lt_zero j)) (fun j hj => absurd hj (Nat.not_lt_zero j))
  simpa [World.setCells] using this
def Behind (w : World) (A : Option Addr) (news : List Value) : Prop := (news = [] ∧ A = none) ∨ ∃ ad, A = some ad ∧ ∀ j u, news[j]? = some u → w.cell? (ad.add j) = some u
theorem add_off (b off j : Nat) : (⟨b, off, none⟩ : Addr).add j = ⟨b, off + j, none⟩ := by
 unfold Addr.add; split <;> simp_all
theorem wpList_append_gen {ops : Array Oper} {rest : List Oper} {o : Oper} {a : Act} {w : World} {Q : Exit → Act → World → Prop} (hgd : o.guard = none) (s x : Operand) (ts e : TypeId)
  (ho : o.op = .call { callee := .builtin .append, args := #[s, x], argTypes := #[ts, ts] })
  (base : Nat) (i0 : TypeInfo) (z : Value) (size bytes : Nat) (ht : Tryz.prog.underlying ts = some (.slice e)) (hi : Tryz.prog.info? e = some i0) (hz : i0.zero = some z) (hsize : i0.size = size) (hby : i0.bytes = bytes) (hzs : z.cells.size = size) (hsz : 0 < size)
  (v : Value) (n : Nat) (xs : List Value) (hs : a.eval s = v) (hown : w.ownsRow base e size v n xs)
  (A : Option Addr) (m c : Nat) (news : List Value) (hx : a.eval x = .slice A m c) (hm : news.length = m * size) (hb : Behind w A news) (h1 : ∀ u ∈ news, u.oneCell' = true) (h63 : n + m ≤ maxLen) (hbytes : (n + m) * bytes ≤ 140737488355328) (hbase : base ≤ w.heap.size)
  (h : ∀ v' w', w'.ownsRow base e size v' (n + m) (xs ++ news) → w.grownBy w' v.ownBlock → wpList Tryz.prog ops Q rest (a.put o.dst v') w') :
  wpList Tryz.prog ops Q (o :: rest) a w := by
 rcases hb with ⟨rfl, rfl⟩ | ⟨ad, rfl, hnews⟩
 ·obtain rfl : m = 0 := by
   rcases Nat.eq_zero_or_pos m with h | h
   ·exact h
   ·have := Nat.mul_pos h hsz
    simp at hm
    omega
  refine wpList_plain hgd fun K hK => ?_
  have hr := run_append_none_gen w base v n xs ts e size i0 ht hi hown o.type c
  unfold Oper.wp execOp
  simp only [ho, resolve, invoke, builtin, Sem.run_bind, Sem.run_pure, Result.andThen_ok, List.map_toArray, List.map_cons, List.map_nil, hs, hx, hr]
  refine hK _ _ (h v w (by simpa using hown) ⟨rfl, rfl, rfl, Nat.le_refl _, fun _ _ _ => rfl⟩)
 ·exact wpList_append_own_at w hgd s x ts ho base e i0 z size bytes ht hi hz hsize hby hzs hsz v n xs hs hown ad m c news hx hm hnews h1 h63 hbytes hbase fun v' w' h1 h2 _ _ => h v' w' h1 h2
end Go.Proofs.YthagenodiofgnaaGreat.AppG
namespace Go.Proofs.YthagenodiofgnaaGreat.Big
open Go.RowKit Go.Proofs.YthagenodiofgnaaGreat Go.Proofs.YthagenodiofgnaaGreat.Base Go.Proofs.YthagenodiofgnaaGreat.Mem Go.Proofs.YthagenodiofgnaaGreat.BigM Go.Proofs.YthagenodiofgnaaGreat.AppG
set_option linter.unusedVariables false
theorem IsB.behind {w : World} {x n c : Nat} {A : Option Addr} (h : IsB w x (.slice A n c)) {k : Nat} (hk : k ≤ (bigL x).length) (hA : A = none ∨ ∃ g, A = some ⟨g, 0, none⟩) (w' : World) (hb : Below w.heap.size w w') :
  Behind w' (A.map fun a => (⟨a.block, a.off + k, none⟩ : Addr)) (ints (zs ((bigL x).drop k))) := by
 rcases hA with rfl | ⟨g, rfl⟩
 ·rcases Nat.eq_zero_or_pos (bigL x).length with h0 | h0
  ·exact .inl ⟨by rw [List.length_eq_zero_iff.1 h0, List.drop_nil]; rfl, rfl⟩
  ·obtain ⟨_, e, _⟩ := IsB.cell h h0
   cases e
 ·refine .inr ⟨_, rfl, fun j u hj => ?_⟩
  have hl : j < ((bigL x).drop k).length := by
   have := (List.getElem?_eq_some_iff.1 hj).1
   rwa [ints_len, zs_len] at this
  rw [List.length_drop] at hl
  obtain ⟨g', e, hc⟩ := IsB.cell (h.below hb) (show k + j < (bigL x).length by omega)
  injection e with e
  injection e with e1 _ _
  subst e1
  rw [add_off, Nat.zero_add, hc]
  rw [ints_get _ j (by rw [zs_len, List.length_drop]; omega), zs_get] at hj
  have : ((bigL x).drop k).getD j 0 = (bigL x).getD (k + j) 0 := by simp only [List.getD_eq_getElem?_getD, List.getElem?_drop]
  rw [this] at hj
  exact hj
theorem cmpN_ge {x y : Nat} (h : y ≤ x) : 0 ≤ cmpN x y := by
 unfold cmpN
 rw [if_neg (by omega)]
 split <;> decide
theorem IsB.behind_end {w : World} {x k : Nat} (hk : (bigL x).length ≤ k) (ad : Addr) : Behind w (some ad) (ints (zs ((bigL x).drop k))) := by
 rw [List.drop_of_length_le hk]
 exact .inr ⟨ad, rfl, fun j u hj => by simp [zs, ints] at hj⟩
def TwoRet (x y : Nat) (w : World) (e : Ending) (w' : World) : Prop := ∃ v u, e = .returned (.tuple #[v, u]) ∧ IsB w' x v ∧ IsB w' y u ∧ Below w.heap.size w w'
theorem Dig.lit0 (w : World) : Dig (w.alloc (.cells #[] 2)) w.heap.size (.slice (some ⟨w.heap.size, 0, none⟩) 0 0) [] := World.ownsRow_made w #[] 0 (Nat.le_refl _) (Nat.zero_le _) (by simp)
theorem Dig.isB {w : World} {B x : Nat} {v : Value} {xs : List Nat} (h : Dig w B v xs) (e : xs = bigL x) : IsB w x v := by subst e; exact h.base (Nat.zero_le _)
def SplitSt (x y n q r : Nat) : Prop := q = x / 2 ^ n / y ∧ r = x / 2 ^ n % y
def SplitRel (x y : Nat) (w : World) (iv qv rv : Value) (wr : World) : Prop :=
 ∃ n q r : Nat, iv = .int .i64 ((n : Int) - 1) ∧ n ≤ 30 * (bigL x).length + 30 ∧ n ≤ 30 * (bigL x).length ∧ Hid (SplitSt x y n q r) ∧ Hid (IsB wr q qv) ∧ Hid (IsB wr r rv) ∧ Hid (Below w.heap.size w wr)
theorem split_start {x y left : Nat} (hy : 0 < y) (hl : (bigL x).length + 1 = left + (bigL y).length) : SplitSt x y (30 * left) 0 (x / D30 ^ left) ∧ bigL (x / D30 ^ left) = (bigL x).drop left := by
 have e1 : x / 2 ^ (30 * left) = x / D30 ^ left := by rw [show D30 = 2 ^ 30 by decide, ← Nat.pow_mul]
 have hlt : x / D30 ^ left < y := by
  have h1 := big_lt_pow x
  have h2 := len_pos hy
  have h3 : x / D30 ^ left < D30 ^ ((bigL y).length - 1) := by
   rw [Nat.div_lt_iff_lt_mul (Nat.pow_pos (by decide)), ← Nat.pow_add]
   rw [show (bigL y).length - 1 + left = (bigL x).length by omega]
   exact h1
  refine Nat.lt_of_lt_of_le h3 ?_
  refine Nat.le_of_not_lt fun h4 => ?_
  have := bigL_len_le h4
  omega
 refine ⟨⟨?_, ?_⟩, (drop_big x left).symm⟩
 ·rw [e1, Nat.div_eq_of_lt hlt]
 ·rw [e1, Nat.mod_eq_of_lt hlt]
theorem Dig.addr {w : World} {B n c : Nat} {A : Option Addr} {xs : List Nat} (h : Dig w B (.slice A n c) xs) : A = none ∨ ∃ g, A = some ⟨g, 0, none⟩ := by
 rcases h.2 with ⟨e, _⟩ | ⟨g, cap, cur, e, _⟩
 ·injection e with e1 _ _; exact .inl e1
 ·injection e with e1 _ _; exact .inr ⟨g, e1⟩
theorem drop_len (x k : Nat) : (ints (zs ((bigL x).drop k))).length = ((bigL x).length - k) * 1 := by rw [ints_len, zs_len, List.length_drop, Nat.mul_one]
set_option maxHeartbeats 4000000 in
set_option maxRecDepth 100000 in
theorem split_small {x y : Nat} {u v : Value} (w : World) (hx : IsB w x u) (hy : IsB w y v) (hlt : (bigL x).length < (bigL y).length) (hl : (bigL x).length ≤ 900000) : Calls Tryz.prog 81 #[u, v] w (TwoRet (x / y) (x % y) w) := by
 obtain ⟨i0, hi, hz0, hz1, hz2⟩ := info_parts infoI
 have hxy : x < y := bigL_len_lt hlt
 rw [Nat.div_eq_of_lt hxy, Nat.mod_eq_of_lt hxy]
 obtain ⟨A, c, rfl, _⟩ := Dig.form hx
 obtain ⟨A', c', rfl, _⟩ := Dig.form hy
 have hA0 : A = none ∨ ∃ g, A = some ⟨g, 0, none⟩ := Dig.addr hx
 have hW2 : Below w.heap.size w ((w.alloc (.cells #[] 2)).alloc (.cells #[] 2)) := ((Below.refl _ _).alloc (Nat.le_refl _) _).alloc (by simp) _
 have HBh : Hid (Behind ((w.alloc (.cells #[] 2)).alloc (.cells #[] 2)) A (ints (zs (bigL x)))) := Lib.hid (by
  have := IsB.behind hx (k := 0) (Nat.zero_le _) hA0 _ hW2
  rw [List.drop_zero] at this
  rcases hA0 with rfl | ⟨g, rfl⟩
  ·exact this
  ·exact this)
 have HW : Hid (((w.alloc (.cells #[] 2)).alloc (.cells #[] 2)).ownsRow (w.heap.size + 1) 2 1 (.slice (some ⟨w.heap.size + 1, 0, none⟩) 0 0) 0 []) := Lib.hid (by
  have := Dig.lit0 (w.alloc (.cells #[] 2))
  simpa [Dig, zs, ints] using this)
 have HF : Hid (∀ v' w3, w3.ownsRow (w.heap.size + 1) 2 1 v' (bigL x).length (ints (zs (bigL x))) → ((w.alloc (.cells #[] 2)).alloc (.cells #[] 2)).grownBy w3 (Value.slice (some ⟨w.heap.size + 1, 0, none⟩) 0 0).ownBlock → TwoRet 0 x w (.returned (.tuple #[.slice (some ⟨w.heap.size, 0, none⟩) 0 0, v'])) w3) := Lib.hid fun v' w3 ho hg => by
  have h0 : Dig ((w.alloc (.cells #[] 2)).alloc (.cells #[] 2)) w.heap.size (.slice (some ⟨w.heap.size, 0, none⟩) 0 0) [] := World.ownsRow.alloc (Dig.lit0 w) _
  have h1 : Dig w3 w.heap.size (.slice (some ⟨w.heap.size, 0, none⟩) 0 0) [] := World.ownsRow.kept h0 hg (.inr (by simp [Value.ownBlock]))
  refine ⟨_, _, rfl, h1.isB bigL_zero.symm, Dig.isB (B := w.heap.size + 1) ho rfl, ?_⟩
  exact hW2.trans (grown_below hg (fun g e => by simp [Value.ownBlock] at e; omega) (by simp; omega))
 clear hx hy hxy hA0 hW2
 go_enter Tryz.func81, Tryz.ntmps81
 go_wp2_with (at_builtin; refine wpList_append_gen rfl (.tmp 18) (.tmp 19) 64 2 rfl (w.heap.size + 1) i0 (.int .i64 0) 1 8 Tryz.underlying64 hi hz0 hz1 hz2 rfl (by decide) _ _ _ rfl HW.out A (bigL x).length c (ints (zs (bigL x))) rfl ?p1 HBh.out ?p3 ?p4 ?p5 ?p6 ?_)
 try case p1 => rw [ints_len, zs_len, Nat.mul_one]
 try case p3 => exact ints_one _
 try case p4 => first | (simp only [maxLen]; omega) | omega
 try case p5 => omega
 try case p6 => first | (simp only [World.size_alloc]; omega) | omega
 intro v' w3 hown' hg'
 have HF2 := Lib.hid (HF.out v' w3 hown' hg')
 clear hown' hg'
 go_wp2
 go_ret2
 exact HF2.out
theorem SplitSt.next {x y n m q r b : Nat} (hy : 0 < y) (h : SplitSt x y n q r) (hn : n = m + 1) (hb : b = x / 2 ^ m % 2) : (y ≤ 2 * r + b → SplitSt x y m (2 * q + 1) (2 * r + b - y)) ∧ (2 * r + b < y → SplitSt x y m (2 * q) (2 * r + b)) := by
 subst hn
 obtain ⟨h1, h2⟩ := h
 have h3 := shr_step x m
 have h4 := Nat.div_add_mod (x / 2 ^ (m + 1)) y
 rw [← h1, ← h2] at h4
 have h5 : r < y := by rw [h2]; exact Nat.mod_lt _ hy
 have h6 : b ≤ 1 := by omega
 obtain ⟨k1, k2⟩ := split_step (q := q) (r := r) (y := y) (h := x / 2 ^ (m + 1)) (b := b) (by rw [Nat.mul_comm q y]; omega) h5 h6
 rw [← hb] at h3
 constructor
 ·intro hle
  obtain ⟨g1, g2⟩ := k1 hle
  have := div_of (x := x / 2 ^ m) (q := 2 * q + 1) (y := y) (r := 2 * r + b - y) (by rw [h3, g1]) g2
  exact ⟨this.1.symm, this.2.symm⟩
 ·intro hlt
  have g1 := k2 hlt
  have := div_of (x := x / 2 ^ m) (q := 2 * q) (y := y) (r := 2 * r + b) (by rw [h3, g1]) hlt
  exact ⟨this.1.symm, this.2.symm⟩
theorem SplitSt.lens {x y n q r : Nat} (hy : 0 < y) (h : SplitSt x y n q r) : (bigL q).length ≤ (bigL x).length ∧ (bigL r).length ≤ (bigL y).length := by
 obtain ⟨h1, h2⟩ := h
 refine ⟨len_mono ?_, len_mono ?_⟩
 ·rw [h1]; exact Nat.le_trans (Nat.div_le_self _ _) (Nat.div_le_self _ _)
 ·rw [h2]; exact Nat.le_of_lt (Nat.mod_lt _ hy)
theorem len_two : (bigL 2).length = 1 := by rw [bigL_pos (by decide), show 2 / D30 = 0 from rfl, bigL_zero]; rfl
theorem len_one : (bigL 1).length = 1 := by rw [bigL_pos (by decide), show 1 / D30 = 0 from rfl, bigL_zero]; rfl
set_option maxHeartbeats 4000000 in
set_option maxRecDepth 100000 in
theorem split_big {x y : Nat} {u v : Value} (w : World) (hx : IsB w x u) (hy : IsB w y v) (hle : (bigL y).length ≤ (bigL x).length) (hl : (bigL x).length ≤ 900000) (hy0 : 0 < y) : Calls Tryz.prog 81 #[u, v] w (TwoRet (x / y) (x % y) w) := by
 obtain ⟨i0, hi, hz0, hz1, hz2⟩ := info_parts infoI
 have hyl := len_pos hy0
 obtain ⟨left, hleft⟩ : ∃ left, (bigL x).length + 1 = left + (bigL y).length := ⟨(bigL x).length + 1 - (bigL y).length, by omega⟩
 obtain ⟨hS0, hD0⟩ := split_start hy0 hleft
 obtain ⟨A, c, rfl, hAf⟩ := Dig.form hx
 have hA0 := Dig.addr hx
 have hcap := Dig.cap hx
 obtain ⟨g, rfl, _⟩ := hAf (by omega)
 obtain ⟨A', c', rfl, _⟩ := Dig.form hy
 have hW2 : Below w.heap.size w ((w.alloc (.cells #[] 2)).alloc (.cells #[] 2)) := ((Below.refl _ _).alloc (Nat.le_refl _) _).alloc (by simp) _
 have hBh := IsB.behind hx (k := left) (by omega) hA0 _ hW2
 have hdl := drop_len x left
 have HXY := Lib.hid (And.intro hx hy)
 have HBh := Lib.hid hBh
 have HDL := Lib.hid hdl
 have HS0 := Lib.hid hS0
 have HD0 := Lib.hid hD0
 have HL := Lib.hid hleft
 have hll : left ≤ (bigL x).length := by omega
 have hcast : ((bigL x).length : Int) - ((bigL y).length : Int) + 1 = (left : Int) := by omega
 clear hx hy hA0 hAf hW2 hBh hdl hS0 hD0 hleft
 have HV := Lib.hid hy0
 clear hy0
 go_enter Tryz.func81, Tryz.ntmps81
 have HW : Hid (((w.alloc (.cells #[] 2)).alloc (.cells #[] 2)).ownsRow (w.heap.size + 1) 2 1 (.slice (some ⟨w.heap.size + 1, 0, none⟩) 0 0) 0 []) := Lib.hid (by
  have := Dig.lit0 (w.alloc (.cells #[] 2))
  simpa [Dig, zs, ints] using this)
 have HF : Hid (∀ v' w3, w3.ownsRow (w.heap.size + 1) 2 1 v' ((bigL x).length - left) (ints (zs ((bigL x).drop left))) → ((w.alloc (.cells #[] 2)).alloc (.cells #[] 2)).grownBy w3 (Value.slice (some ⟨w.heap.size + 1, 0, none⟩) 0 0).ownBlock → IsB w3 0 (.slice (some ⟨w.heap.size, 0, none⟩) 0 0) ∧ IsB w3 (x / D30 ^ left) v' ∧ Below w.heap.size w w3) := Lib.hid fun v' w3 ho hg => by
  have h0 : Dig ((w.alloc (.cells #[] 2)).alloc (.cells #[] 2)) w.heap.size (.slice (some ⟨w.heap.size, 0, none⟩) 0 0) [] := World.ownsRow.alloc (Dig.lit0 w) _
  have h1 : Dig w3 w.heap.size (.slice (some ⟨w.heap.size, 0, none⟩) 0 0) [] := World.ownsRow.kept h0 hg (.inr (by simp [Value.ownBlock]))
  refine ⟨h1.isB bigL_zero.symm, Dig.isB (B := w.heap.size + 1) (xs := (bigL x).drop left) (by unfold Dig; rw [List.length_drop]; exact ho) HD0.out.symm, ?_⟩
  exact (((Below.refl _ _).alloc (Nat.le_refl _) _).alloc (by simp) _).trans (grown_below hg (fun g e => by simp [Value.ownBlock] at e; omega) (by simp; omega))
 by_cases hlc : left = c
 ·have HBe := Lib.hid (IsB.behind_end (w := (w.alloc (.cells #[] 2)).alloc (.cells #[] 2)) (x := x) (k := left) (by omega) ⟨g, 0, none⟩)
  clear HBh
  have HBh := HBe
  clear HBe
  have hlc2 : ¬ (left : Int) < (c : Int) := by omega
  have HLC := Lib.hid hlc
  clear hlc
  go_wp2_with (at_builtin; refine wpList_append_gen rfl (.tmp 28) (.tmp 31) 64 2 rfl (w.heap.size + 1) i0 (.int .i64 0) 1 8 Tryz.underlying64 hi hz0 hz1 hz2 rfl (by decide) _ _ _ rfl HW.out (some (⟨g, 0, none⟩ : Addr)) ((bigL x).length - left) (c - left) (ints (zs ((bigL x).drop left))) rfl ?p1 ?p2 ?p3 ?p4 ?p5 ?p6 ?_)
  try case p1 => first | exact HDL.out | rw [HDL.out, Nat.mul_one]
  try case p2 => exact (by simpa using HBh.out)
  try case p3 => exact ints_one _
  try case p4 => first | (simp only [maxLen]; omega) | omega
  try case p5 => omega
  try case p6 => first | (simp only [World.size_alloc]; omega) | omega
  intro v' w3 hown' hg'
  have HF2 := Lib.hid (HF.out v' w3 (by simpa using hown') (by simpa using hg'))
  clear hown' hg'
  go_wp2_with fail
  refine (bigOf_any 2 (by decide) w3).mono ?_
  rintro e w4 ⟨v2, rfl, h2, hb4⟩
  have HB4 := Lib.hid hb4
  have H2 := Lib.hid h2
  clear h2 hb4
  go_wp2_with fail
  refine (bigOf_any 1 (by decide) w4).mono ?_
  rintro e w5 ⟨v1, rfl, h1, hb5⟩
  have hcast2 : wrap64 ((left : Int) * 30) = (left : Int) * 30 := by simp only [wrap64]; omega
  have HA : Hid (IsB w5 x (.slice (some ⟨g, 0, none⟩) (bigL x).length c) ∧ IsB w5 y (.slice A' (bigL y).length c') ∧ IsB w5 2 v2 ∧ IsB w5 1 v1 ∧ Below w.heap.size w w5) := Lib.hid (by
   have b1 := Base.Below.nextA HF2.out.2.2 HB4.out
   have b2 := Base.Below.nextA b1 hb5
   exact ⟨HXY.out.1.below b2, HXY.out.2.below b2, H2.out.below hb5, h1, b2⟩)
  have H0 : Hid (SplitRel x y w5 (.int .i64 ((left : Int) * 30 - 1)) (.slice (some ⟨w.heap.size, 0, none⟩) 0 0) v' w5) := Lib.hid
   ⟨30 * left, 0, x / D30 ^ left, by simp; omega, by omega, by omega, HS0, Lib.hid (IsB.below (HF2.out.1.below HB4.out) hb5), Lib.hid (IsB.below (HF2.out.2.1.below HB4.out) hb5), Lib.hid (Below.refl _ _)⟩
  clear HF2 H2 HB4 h1 hb5 HS0 HD0 HDL HBh HXY HW HF
  go_wp2
  go_loopw [11, 6, 8] (fun iv qv rv wr => SplitRel x y w5 iv qv rv wr) (fun iv _ _ _ => (intOf iv + 1).toNat)
  case atStart => exact H0.out
  case round =>
   obtain ⟨n, q, r, rfl, hn1, hn2, hst, HQ, HR, HB⟩ := hrel
   clear H0
   by_cases hpos : 0 < n
   ·obtain ⟨m, rfl⟩ : ∃ m, n = m + 1 := ⟨n - 1, by omega⟩
    have e1 : (((m + 1 : Nat) : Int) - 1) = (m : Int) := by omega
    rw [e1]
    clear e1
    obtain ⟨hq1, hr1⟩ := SplitSt.lens HV.out hst.out
    have HQL : Hid ((bigL q).length ≤ 900000) := Lib.hid (by omega)
    have HRL : Hid ((bigL r).length ≤ 900000) := Lib.hid (by omega)
    clear hq1 hr1
    go_wp2_with fail
    refine (bigTimes_any wr HQ.out (HA.out.2.2.1.below HB.out) (Nat.le_trans HQL.out (by decide)) (by rw [len_two]; decide)).mono ?_
    rintro e wa ⟨qa, rfl, hqa, hba⟩
    have HQA := Lib.hid hqa
    have HBA := Lib.hid hba
    clear hqa hba
    go_wp2_with fail
    refine (bigTimes_any wa (HR.out.below HBA.out) ((HA.out.2.2.1.below HB.out).below HBA.out) (Nat.le_trans HRL.out (by decide)) (by rw [len_two]; decide)).mono ?_
    rintro e wb ⟨ra, rfl, hra, hbb⟩
    have HRA := Lib.hid hra
    have HBB := Lib.hid (Base.Below.nextA HBA.out hbb)
    have HQB := Lib.hid (HQA.out.below hbb)
    clear hra hbb
    clear HQ HR HQA HBA
    obtain ⟨gx, hgx, hcx⟩ := IsB.cell ((HA.out.1.below HB.out).below HBB.out) (show m / 30 < (bigL x).length by omega)
    injection hgx with hgx
    injection hgx with hgx _ _
    subst hgx
    have HDB := Lib.hid (digit_bit x m)
    have hd1 := okN_at (bigL_ok x) (m / 30)
    unfold D30 at hd1
    generalize (bigL x).getD (m / 30) 0 = dg at *
    have hrl : m % 30 < 30 := Nat.mod_lt _ (by decide)
    have hval : bits .and .i64 ((dg : Int) / 2 ^ (m % 30)) 1 = ((x / 2 ^ m % 2 : Nat) : Int) := by
     have h := Bits.and1 (dg / 2 ^ (m % 30)) (Nat.lt_of_le_of_lt (Nat.div_le_self _ _) (by omega))
     rw [HDB.out] at h
     have e : ((dg / 2 ^ (m % 30) : Nat) : Int) = (dg : Int) / 2 ^ (m % 30) := by simp
     rw [e] at h
     exact h
    have HSN := Lib.hid (fun b hb => SplitSt.next (b := b) HV.out hst.out rfl hb)
    obtain ⟨b, hb⟩ : ∃ b, b = x / 2 ^ m % 2 := ⟨_, rfl⟩
    have hb1 : b ≤ 1 := by omega
    rw [← hb] at hval
    replace HSN := Lib.hid (HSN.out b hb)
    clear hb HDB hst
    have hlr : (bigL (r * 2)).length ≤ 900001 := Nat.le_trans (len_mul r 2) (by have := HRL.out; have := len_two; omega)
    have HLR := Lib.hid hlr
    have HLQ : Hid ((bigL (q * 2)).length ≤ 900001) := Lib.hid (Nat.le_trans (len_mul q 2) (by have := HQL.out; have := len_two; omega))
    have HNX : Hid (∀ q2 r2 iv qv rv wn, q2 = q * 2 + (if y ≤ 2 * r + b then 1 else 0) → r2 = (if y ≤ 2 * r + b then 2 * r + b - y else 2 * r + b) → iv = .int .i64 ((m : Int) - 1) → IsB wn q2 qv → IsB wn r2 rv → Below w5.heap.size w5 wn → SplitRel x y w5 iv qv rv wn) := Lib.hid fun q2 r2 iv qv rv wn e1 e2 e3 e4 e5 e6 => by
     refine ⟨m, q2, r2, e3, by omega, by omega, Lib.hid ?_, Lib.hid e4, Lib.hid e5, Lib.hid e6⟩
     by_cases h : y ≤ 2 * r + b
     ·rw [if_pos h] at e1 e2
      have := HSN.out.1 h
      rw [e1, e2, Nat.mul_comm q 2]; exact this
     ·rw [if_neg h] at e1 e2
      have := HSN.out.2 (by omega)
      rw [e1, e2, Nat.mul_comm q 2, Nat.add_zero]; exact this
    clear HSN hlr HQL HRL
    have HBW := Lib.hid (HB.out.trans (HBB.out.mono HB.out.size))
    have HYB := Lib.hid (HA.out.2.1.below HBW.out)
    have H1B := Lib.hid (HA.out.2.2.2.1.below HBW.out)
    clear HB HBB
    have hb01 : b = 1 ∨ b = 0 := by omega
    rcases hb01 with rfl | rfl
    ·have hbit : (bits .and .i64 ((dg : Int) / 2 ^ (m % 30)) 1 == 1) = true := by rw [hval]; rfl
     clear hval
     go_wp2_with fail
     refine (bigPlus_any wb HRA.out H1B.out (Nat.le_trans HLR.out (by decide)) (by rw [len_one]; decide)).mono ?_
     rintro e wc ⟨rb, rfl, hrb, hbc⟩
     have HRB := Lib.hid hrb
     have HBC := Lib.hid hbc
     clear hrb hbc
     have hlrb : (bigL (r * 2 + 1)).length ≤ 900003 := Nat.le_trans (len_add _ 1) (by have := HLR.out; have := len_one; omega)
     have hlrc := Lib.hid hlrb
     clear hlrb
     by_cases hc : y ≤ (r * 2 + 1)
     ·have hcmp : 0 ≤ cmpN (r * 2 + 1) y := cmpN_ge hc
      go_wp2_with fail
      refine (bigCmp_any wc HRB.out (HYB.out.below HBC.out) (Nat.le_trans hlrc.out (by decide)) (by omega)).mono ?_
      rintro e wd ⟨rfl, hD⟩
      have HD := Lib.hid hD
      clear hD
      generalize cmpN (r * 2 + 1) y = cm at *
      go_wp2_with fail
      refine (bigMinus_any wd (IsB.below HRB.out HD.out.below) (IsB.below (HYB.out.below HBC.out) HD.out.below) (Nat.le_trans hlrc.out (by decide)) hc).mono ?_
      rintro e we ⟨rc, rfl, hrc, hbe⟩
      have HRC := Lib.hid hrc
      have HBE := Lib.hid hbe
      clear hrc hbe
      go_wp2_with fail
      refine (bigPlus_any we (IsB.below (IsB.below (HQB.out.below HBC.out) HD.out.below) HBE.out) (IsB.below (IsB.below (H1B.out.below HBC.out) HD.out.below) HBE.out) (Nat.le_trans HLQ.out (by decide)) (by rw [len_one]; decide)).mono ?_
      rintro e wf ⟨qc, rfl, hqc, hbf⟩
      have HN := Lib.hid (HNX.out (q * 2 + 1) ((r * 2 + 1) - y) (.int .i64 ((m : Int) - 1)) qc rc wf (by rw [if_pos (by omega)]) (by rw [if_pos (by omega)]; omega) rfl hqc (HRC.out.below hbf) (Base.Below.nextA (Base.Below.nextA (Base.Below.nextA (HBW.out.trans (HBC.out.mono HBW.out.size)) HD.out.below) HBE.out) hbf))
      clear hqc hbf
      go_wp2
      go_roundw
      case rel => exact HN.out
      case measure => simp [intOf]
     ·have hcm1 := cmpN_lt (show (r * 2 + 1) < y by omega)
      go_wp2_with fail
      refine (bigCmp_any wc HRB.out (HYB.out.below HBC.out) (Nat.le_trans hlrc.out (by decide)) (by omega)).mono ?_
      rintro e wd ⟨rfl, hD⟩
      have HD := Lib.hid hD
      clear hD
      have HN := Lib.hid (HNX.out (q * 2) (r * 2 + 1) (.int .i64 ((m : Int) - 1)) qa rb wd (by rw [if_neg (by omega), Nat.add_zero]) (by rw [if_neg (by omega)]; omega) rfl (IsB.below (HQB.out.below HBC.out) HD.out.below) (IsB.below HRB.out HD.out.below) (Base.Below.nextA (HBW.out.trans (HBC.out.mono HBW.out.size)) HD.out.below))
      generalize cmpN (r * 2 + 1) y = cm at *
      subst hcm1
      go_wp2
      go_roundw
      case rel => exact HN.out
      case measure => simp [intOf]
    ·have hbit : (bits .and .i64 ((dg : Int) / 2 ^ (m % 30)) 1 == 1) = false := by rw [hval]; rfl
     clear hval
     have hlrb : (bigL (r * 2)).length ≤ 900003 := by have := HLR.out; omega
     have hlrc := Lib.hid hlrb
     clear hlrb
     by_cases hc : y ≤ (r * 2)
     ·have hcmp : 0 ≤ cmpN (r * 2) y := cmpN_ge hc
      go_wp2_with fail
      refine (bigCmp_any wb HRA.out HYB.out (Nat.le_trans hlrc.out (by decide)) (by omega)).mono ?_
      rintro e wd ⟨rfl, hD⟩
      have HD := Lib.hid hD
      clear hD
      generalize cmpN (r * 2) y = cm at *
      go_wp2_with fail
      refine (bigMinus_any wd (IsB.below HRA.out HD.out.below) (IsB.below HYB.out HD.out.below) (Nat.le_trans hlrc.out (by decide)) hc).mono ?_
      rintro e we ⟨rc, rfl, hrc, hbe⟩
      have HRC := Lib.hid hrc
      have HBE := Lib.hid hbe
      clear hrc hbe
      go_wp2_with fail
      refine (bigPlus_any we (IsB.below (IsB.below HQB.out HD.out.below) HBE.out) (IsB.below (IsB.below H1B.out HD.out.below) HBE.out) (Nat.le_trans HLQ.out (by decide)) (by rw [len_one]; decide)).mono ?_
      rintro e wf ⟨qc, rfl, hqc, hbf⟩
      have HN := Lib.hid (HNX.out (q * 2 + 1) ((r * 2) - y) (.int .i64 ((m : Int) - 1)) qc rc wf (by rw [if_pos (by omega)]) (by rw [if_pos (by omega)]; omega) rfl hqc (HRC.out.below hbf) (Base.Below.nextA (Base.Below.nextA (Base.Below.nextA HBW.out HD.out.below) HBE.out) hbf))
      clear hqc hbf
      go_wp2
      go_roundw
      case rel => exact HN.out
      case measure => simp [intOf]
     ·have hcm1 := cmpN_lt (show (r * 2) < y by omega)
      go_wp2_with fail
      refine (bigCmp_any wb HRA.out HYB.out (Nat.le_trans hlrc.out (by decide)) (by omega)).mono ?_
      rintro e wd ⟨rfl, hD⟩
      have HD := Lib.hid hD
      clear hD
      have HN := Lib.hid (HNX.out (q * 2) (r * 2) (.int .i64 ((m : Int) - 1)) qa ra wd (by rw [if_neg (by omega), Nat.add_zero]) (by rw [if_neg (by omega)]; omega) rfl (IsB.below HQB.out HD.out.below) (IsB.below HRA.out HD.out.below) (Base.Below.nextA HBW.out HD.out.below))
      generalize cmpN (r * 2) y = cm at *
      subst hcm1
      go_wp2
      go_roundw
      case rel => exact HN.out
      case measure => simp [intOf]
   ·obtain rfl : n = 0 := by omega
    have hq0 : q = x / y := by have := hst.out.1; rwa [Nat.pow_zero, Nat.div_one] at this
    have hr0 : r = x % y := by have := hst.out.2; rwa [Nat.pow_zero, Nat.div_one] at this
    have HQ2 := HQ.out
    have HR2 := HR.out
    rw [hq0] at HQ2
    rw [hr0] at HR2
    have HF := Lib.hid (And.intro HQ2 (And.intro HR2 (Base.Below.nextA HA.out.2.2.2.2 HB.out)))
    clear HQ HR HB hst hq0 hr0 HQ2 HR2
    go_wp2
    go_ret2
    exact ⟨_, _, rfl, HF.out.1, HF.out.2.1, HF.out.2.2⟩
 have hlc2 : (left : Int) < (c : Int) := by omega
 go_wp2_with (at_builtin; refine wpList_append_gen rfl (.tmp 28) (.tmp 31) 64 2 rfl (w.heap.size + 1) i0 (.int .i64 0) 1 8 Tryz.underlying64 hi hz0 hz1 hz2 rfl (by decide) _ _ _ rfl HW.out (some (⟨g, left, none⟩ : Addr)) ((bigL x).length - left) (c - left) (ints (zs ((bigL x).drop left))) rfl ?p1 ?p2 ?p3 ?p4 ?p5 ?p6 ?_)
 try case p1 => first | exact HDL.out | rw [HDL.out, Nat.mul_one]
 try case p2 => exact (by simpa using HBh.out)
 try case p3 => exact ints_one _
 try case p4 => first | (simp only [maxLen]; omega) | omega
 try case p5 => omega
 try case p6 => first | (simp only [World.size_alloc]; omega) | omega
 intro v' w3 hown' hg'
 have HF2 := Lib.hid (HF.out v' w3 (by simpa using hown') (by simpa using hg'))
 clear hown' hg'
 go_wp2_with fail
 refine (bigOf_any 2 (by decide) w3).mono ?_
 rintro e w4 ⟨v2, rfl, h2, hb4⟩
 have HB4 := Lib.hid hb4
 have H2 := Lib.hid h2
 clear h2 hb4
 go_wp2_with fail
 refine (bigOf_any 1 (by decide) w4).mono ?_
 rintro e w5 ⟨v1, rfl, h1, hb5⟩
 have hcast2 : wrap64 ((left : Int) * 30) = (left : Int) * 30 := by simp only [wrap64]; omega
 have HA : Hid (IsB w5 x (.slice (some ⟨g, 0, none⟩) (bigL x).length c) ∧ IsB w5 y (.slice A' (bigL y).length c') ∧ IsB w5 2 v2 ∧ IsB w5 1 v1 ∧ Below w.heap.size w w5) := Lib.hid (by
  have b1 := Base.Below.nextA HF2.out.2.2 HB4.out
  have b2 := Base.Below.nextA b1 hb5
  exact ⟨HXY.out.1.below b2, HXY.out.2.below b2, H2.out.below hb5, h1, b2⟩)
 have H0 : Hid (SplitRel x y w5 (.int .i64 ((left : Int) * 30 - 1)) (.slice (some ⟨w.heap.size, 0, none⟩) 0 0) v' w5) := Lib.hid
  ⟨30 * left, 0, x / D30 ^ left, by simp; omega, by omega, by omega, HS0, Lib.hid (IsB.below (HF2.out.1.below HB4.out) hb5), Lib.hid (IsB.below (HF2.out.2.1.below HB4.out) hb5), Lib.hid (Below.refl _ _)⟩
 clear HF2 H2 HB4 h1 hb5 HS0 HD0 HDL HBh HXY HW HF
 go_wp2
 go_loopw [11, 6, 8] (fun iv qv rv wr => SplitRel x y w5 iv qv rv wr) (fun iv _ _ _ => (intOf iv + 1).toNat)
 case atStart => exact H0.out
 case round =>
  obtain ⟨n, q, r, rfl, hn1, hn2, hst, HQ, HR, HB⟩ := hrel
  clear H0
  by_cases hpos : 0 < n
  ·obtain ⟨m, rfl⟩ : ∃ m, n = m + 1 := ⟨n - 1, by omega⟩
   have e1 : (((m + 1 : Nat) : Int) - 1) = (m : Int) := by omega
   rw [e1]
   clear e1
   obtain ⟨hq1, hr1⟩ := SplitSt.lens HV.out hst.out
   have HQL : Hid ((bigL q).length ≤ 900000) := Lib.hid (by omega)
   have HRL : Hid ((bigL r).length ≤ 900000) := Lib.hid (by omega)
   clear hq1 hr1
   go_wp2_with fail
   refine (bigTimes_any wr HQ.out (HA.out.2.2.1.below HB.out) (Nat.le_trans HQL.out (by decide)) (by rw [len_two]; decide)).mono ?_
   rintro e wa ⟨qa, rfl, hqa, hba⟩
   have HQA := Lib.hid hqa
   have HBA := Lib.hid hba
   clear hqa hba
   go_wp2_with fail
   refine (bigTimes_any wa (HR.out.below HBA.out) ((HA.out.2.2.1.below HB.out).below HBA.out) (Nat.le_trans HRL.out (by decide)) (by rw [len_two]; decide)).mono ?_
   rintro e wb ⟨ra, rfl, hra, hbb⟩
   have HRA := Lib.hid hra
   have HBB := Lib.hid (Base.Below.nextA HBA.out hbb)
   have HQB := Lib.hid (HQA.out.below hbb)
   clear hra hbb
   clear HQ HR HQA HBA
   obtain ⟨gx, hgx, hcx⟩ := IsB.cell ((HA.out.1.below HB.out).below HBB.out) (show m / 30 < (bigL x).length by omega)
   injection hgx with hgx
   injection hgx with hgx _ _
   subst hgx
   have HDB := Lib.hid (digit_bit x m)
   have hd1 := okN_at (bigL_ok x) (m / 30)
   unfold D30 at hd1
   generalize (bigL x).getD (m / 30) 0 = dg at *
   have hrl : m % 30 < 30 := Nat.mod_lt _ (by decide)
   have hval : bits .and .i64 ((dg : Int) / 2 ^ (m % 30)) 1 = ((x / 2 ^ m % 2 : Nat) : Int) := by
    have h := Bits.and1 (dg / 2 ^ (m % 30)) (Nat.lt_of_le_of_lt (Nat.div_le_self _ _) (by omega))
    rw [HDB.out] at h
    have e : ((dg / 2 ^ (m % 30) : Nat) : Int) = (dg : Int) / 2 ^ (m % 30) := by simp
    rw [e] at h
    exact h
   have HSN := Lib.hid (fun b hb => SplitSt.next (b := b) HV.out hst.out rfl hb)
   obtain ⟨b, hb⟩ : ∃ b, b = x / 2 ^ m % 2 := ⟨_, rfl⟩
   have hb1 : b ≤ 1 := by omega
   rw [← hb] at hval
   replace HSN := Lib.hid (HSN.out b hb)
   clear hb HDB hst
   have hlr : (bigL (r * 2)).length ≤ 900001 := Nat.le_trans (len_mul r 2) (by have := HRL.out; have := len_two; omega)
   have HLR := Lib.hid hlr
   have HLQ : Hid ((bigL (q * 2)).length ≤ 900001) := Lib.hid (Nat.le_trans (len_mul q 2) (by have := HQL.out; have := len_two; omega))
   have HNX : Hid (∀ q2 r2 iv qv rv wn, q2 = q * 2 + (if y ≤ 2 * r + b then 1 else 0) → r2 = (if y ≤ 2 * r + b then 2 * r + b - y else 2 * r + b) → iv = .int .i64 ((m : Int) - 1) → IsB wn q2 qv → IsB wn r2 rv → Below w5.heap.size w5 wn → SplitRel x y w5 iv qv rv wn) := Lib.hid fun q2 r2 iv qv rv wn e1 e2 e3 e4 e5 e6 => by
    refine ⟨m, q2, r2, e3, by omega, by omega, Lib.hid ?_, Lib.hid e4, Lib.hid e5, Lib.hid e6⟩
    by_cases h : y ≤ 2 * r + b
    ·rw [if_pos h] at e1 e2
     have := HSN.out.1 h
     rw [e1, e2, Nat.mul_comm q 2]; exact this
    ·rw [if_neg h] at e1 e2
     have := HSN.out.2 (by omega)
     rw [e1, e2, Nat.mul_comm q 2, Nat.add_zero]; exact this
   clear HSN hlr HQL HRL
   have HBW := Lib.hid (HB.out.trans (HBB.out.mono HB.out.size))
   have HYB := Lib.hid (HA.out.2.1.below HBW.out)
   have H1B := Lib.hid (HA.out.2.2.2.1.below HBW.out)
   clear HB HBB
   have hb01 : b = 1 ∨ b = 0 := by omega
   rcases hb01 with rfl | rfl
   ·have hbit : (bits .and .i64 ((dg : Int) / 2 ^ (m % 30)) 1 == 1) = true := by rw [hval]; rfl
    clear hval
    go_wp2_with fail
    refine (bigPlus_any wb HRA.out H1B.out (Nat.le_trans HLR.out (by decide)) (by rw [len_one]; decide)).mono ?_
    rintro e wc ⟨rb, rfl, hrb, hbc⟩
    have HRB := Lib.hid hrb
    have HBC := Lib.hid hbc
    clear hrb hbc
    have hlrb : (bigL (r * 2 + 1)).length ≤ 900003 := Nat.le_trans (len_add _ 1) (by have := HLR.out; have := len_one; omega)
    have hlrc := Lib.hid hlrb
    clear hlrb
    by_cases hc : y ≤ (r * 2 + 1)
    ·have hcmp : 0 ≤ cmpN (r * 2 + 1) y := cmpN_ge hc
     go_wp2_with fail
     refine (bigCmp_any wc HRB.out (HYB.out.below HBC.out) (Nat.le_trans hlrc.out (by decide)) (by omega)).mono ?_
     rintro e wd ⟨rfl, hD⟩
     have HD := Lib.hid hD
     clear hD
     generalize cmpN (r * 2 + 1) y = cm at *
     go_wp2_with fail
     refine (bigMinus_any wd (IsB.below HRB.out HD.out.below) (IsB.below (HYB.out.below HBC.out) HD.out.below) (Nat.le_trans hlrc.out (by decide)) hc).mono ?_
     rintro e we ⟨rc, rfl, hrc, hbe⟩
     have HRC := Lib.hid hrc
     have HBE := Lib.hid hbe
     clear hrc hbe
     go_wp2_with fail
     refine (bigPlus_any we (IsB.below (IsB.below (HQB.out.below HBC.out) HD.out.below) HBE.out) (IsB.below (IsB.below (H1B.out.below HBC.out) HD.out.below) HBE.out) (Nat.le_trans HLQ.out (by decide)) (by rw [len_one]; decide)).mono ?_
     rintro e wf ⟨qc, rfl, hqc, hbf⟩
     have HN := Lib.hid (HNX.out (q * 2 + 1) ((r * 2 + 1) - y) (.int .i64 ((m : Int) - 1)) qc rc wf (by rw [if_pos (by omega)]) (by rw [if_pos (by omega)]; omega) rfl hqc (HRC.out.below hbf) (Base.Below.nextA (Base.Below.nextA (Base.Below.nextA (HBW.out.trans (HBC.out.mono HBW.out.size)) HD.out.below) HBE.out) hbf))
     clear hqc hbf
     go_wp2
     go_roundw
     case rel => exact HN.out
     case measure => simp [intOf]
    ·have hcm1 := cmpN_lt (show (r * 2 + 1) < y by omega)
     go_wp2_with fail
     refine (bigCmp_any wc HRB.out (HYB.out.below HBC.out) (Nat.le_trans hlrc.out (by decide)) (by omega)).mono ?_
     rintro e wd ⟨rfl, hD⟩
     have HD := Lib.hid hD
     clear hD
     have HN := Lib.hid (HNX.out (q * 2) (r * 2 + 1) (.int .i64 ((m : Int) - 1)) qa rb wd (by rw [if_neg (by omega), Nat.add_zero]) (by rw [if_neg (by omega)]; omega) rfl (IsB.below (HQB.out.below HBC.out) HD.out.below) (IsB.below HRB.out HD.out.below) (Base.Below.nextA (HBW.out.trans (HBC.out.mono HBW.out.size)) HD.out.below))
     generalize cmpN (r * 2 + 1) y = cm at *
     subst hcm1
     go_wp2
     go_roundw
     case rel => exact HN.out
     case measure => simp [intOf]
   ·have hbit : (bits .and .i64 ((dg : Int) / 2 ^ (m % 30)) 1 == 1) = false := by rw [hval]; rfl
    clear hval
    have hlrb : (bigL (r * 2)).length ≤ 900003 := by have := HLR.out; omega
    have hlrc := Lib.hid hlrb
    clear hlrb
    by_cases hc : y ≤ (r * 2)
    ·have hcmp : 0 ≤ cmpN (r * 2) y := cmpN_ge hc
     go_wp2_with fail
     refine (bigCmp_any wb HRA.out HYB.out (Nat.le_trans hlrc.out (by decide)) (by omega)).mono ?_
     rintro e wd ⟨rfl, hD⟩
     have HD := Lib.hid hD
     clear hD
     generalize cmpN (r * 2) y = cm at *
     go_wp2_with fail
     refine (bigMinus_any wd (IsB.below HRA.out HD.out.below) (IsB.below HYB.out HD.out.below) (Nat.le_trans hlrc.out (by decide)) hc).mono ?_
     rintro e we ⟨rc, rfl, hrc, hbe⟩
     have HRC := Lib.hid hrc
     have HBE := Lib.hid hbe
     clear hrc hbe
     go_wp2_with fail
     refine (bigPlus_any we (IsB.below (IsB.below HQB.out HD.out.below) HBE.out) (IsB.below (IsB.below H1B.out HD.out.below) HBE.out) (Nat.le_trans HLQ.out (by decide)) (by rw [len_one]; decide)).mono ?_
     rintro e wf ⟨qc, rfl, hqc, hbf⟩
     have HN := Lib.hid (HNX.out (q * 2 + 1) ((r * 2) - y) (.int .i64 ((m : Int) - 1)) qc rc wf (by rw [if_pos (by omega)]) (by rw [if_pos (by omega)]; omega) rfl hqc (HRC.out.below hbf) (Base.Below.nextA (Base.Below.nextA (Base.Below.nextA HBW.out HD.out.below) HBE.out) hbf))
     clear hqc hbf
     go_wp2
     go_roundw
     case rel => exact HN.out
     case measure => simp [intOf]
    ·have hcm1 := cmpN_lt (show (r * 2) < y by omega)
     go_wp2_with fail
     refine (bigCmp_any wb HRA.out HYB.out (Nat.le_trans hlrc.out (by decide)) (by omega)).mono ?_
     rintro e wd ⟨rfl, hD⟩
     have HD := Lib.hid hD
     clear hD
     have HN := Lib.hid (HNX.out (q * 2) (r * 2) (.int .i64 ((m : Int) - 1)) qa ra wd (by rw [if_neg (by omega), Nat.add_zero]) (by rw [if_neg (by omega)]; omega) rfl (IsB.below HQB.out HD.out.below) (IsB.below HRA.out HD.out.below) (Base.Below.nextA HBW.out HD.out.below))
     generalize cmpN (r * 2) y = cm at *
     subst hcm1
     go_wp2
     go_roundw
     case rel => exact HN.out
     case measure => simp [intOf]
  ·obtain rfl : n = 0 := by omega
   have hq0 : q = x / y := by have := hst.out.1; rwa [Nat.pow_zero, Nat.div_one] at this
   have hr0 : r = x % y := by have := hst.out.2; rwa [Nat.pow_zero, Nat.div_one] at this
   have HQ2 := HQ.out
   have HR2 := HR.out
   rw [hq0] at HQ2
   rw [hr0] at HR2
   have HF := Lib.hid (And.intro HQ2 (And.intro HR2 (Base.Below.nextA HA.out.2.2.2.2 HB.out)))
   clear HQ HR HB hst hq0 hr0 HQ2 HR2
   go_wp2
   go_ret2
   exact ⟨_, _, rfl, HF.out.1, HF.out.2.1, HF.out.2.2⟩
theorem bigSplit_any {x y : Nat} {u v : Value} (w : World) (hx : IsB w x u) (hy : IsB w y v) (hl : (bigL x).length ≤ 900000) (hy0 : 0 < y) : Calls Tryz.prog 81 #[u, v] w (TwoRet (x / y) (x % y) w) := by
 rcases Nat.lt_or_ge (bigL x).length (bigL y).length with h | h
 ·exact split_small w hx hy h hl
 ·exact split_big w hx hy h hl hy0
end Go.Proofs.YthagenodiofgnaaGreat.Big
namespace Go.Proofs.YthagenodiofgnaaGreat.Wide
open Go.RowKit Go.Proofs.YthagenodiofgnaaGreat Go.Proofs.YthagenodiofgnaaGreat.Base Go.Proofs.YthagenodiofgnaaGreat.Mem Go.Proofs.YthagenodiofgnaaGreat.RatM Go.Proofs.YthagenodiofgnaaGreat.BigM Go.Proofs.YthagenodiofgnaaGreat.Big Go.Proofs.YthagenodiofgnaaGreat.Fine Go.Proofs.YthagenodiofgnaaGreat.Blk
set_option linter.unusedVariables false
structure Parts (w : World) (q : Rat) (m : Nat) (s : Bool) (vn vd : Value) (fine : Bool) (fn fd : Int) (n d : Nat) : Prop where
 num : IsB w n vn
 den : IsB w d vd
 pos : 0 < d
 val : qv s n d = q
 ln : (bigL n).length ≤ m
 ld : (bigL d).length ≤ m
 small : fine = true → VF fn fd ∧ qf fn fd = q ∧ n = fn.natAbs ∧ d = fd.toNat
def IsW (w : World) (q : Rat) (m : Nat) (v : Value) : Prop :=
 ∃ s A1 k1 c1 A2 k2 c2 fine fn fd n d, v = .agg #[.bool s, .slice A1 k1 c1, .slice A2 k2 c2, .bool fine, .int .i64 fn, .int .i64 fd] ∧ Parts w q m s (.slice A1 k1 c1) (.slice A2 k2 c2) fine fn fd n d
theorem Parts.below {w w' : World} {q : Rat} {m : Nat} {s : Bool} {vn vd : Value} {fine : Bool} {fn fd : Int} {n d : Nat} (h : Parts w q m s vn vd fine fn fd n d) (hb : Below w.heap.size w w') : Parts w' q m s vn vd fine fn fd n d :=
 ⟨h.num.below hb, h.den.below hb, h.pos, h.val, h.ln, h.ld, h.small⟩
theorem Parts.more {w : World} {q : Rat} {m m' : Nat} {s : Bool} {vn vd : Value} {fine : Bool} {fn fd : Int} {n d : Nat} (h : Parts w q m s vn vd fine fn fd n d) (hm : m ≤ m') : Parts w q m' s vn vd fine fn fd n d :=
 ⟨h.num, h.den, h.pos, h.val, Nat.le_trans h.ln hm, Nat.le_trans h.ld hm, h.small⟩
theorem IsW.below {w w' : World} {q : Rat} {m : Nat} {v : Value} (h : IsW w q m v) (hb : Below w.heap.size w w') : IsW w' q m v := by
 obtain ⟨s, A1, k1, c1, A2, k2, c2, fine, fn, fd, n, d, e, hp⟩ := h
 exact ⟨s, A1, k1, c1, A2, k2, c2, fine, fn, fd, n, d, e, hp.below hb⟩
theorem IsW.more {w : World} {q : Rat} {m m' : Nat} {v : Value} (h : IsW w q m v) (hm : m ≤ m') : IsW w q m' v := by
 obtain ⟨s, A1, k1, c1, A2, k2, c2, fine, fn, fd, n, d, e, hp⟩ := h
 exact ⟨s, A1, k1, c1, A2, k2, c2, fine, fn, fd, n, d, e, hp.more hm⟩
def WRet (q : Rat) (m : Nat) (w : World) (e : Ending) (w' : World) : Prop := ∃ v, e = .returned v ∧ IsW w' q m v ∧ Below w.heap.size w w'
theorem isB_mono (x : Nat) : Rel.Mono (fun v w => IsB w x v) := fun v w w' h hb => h.below hb
theorem isW_mono (q : Rat) (m : Nat) : Rel.Mono (fun v w => IsW w q m v) := fun v w w' h hb => h.below hb
theorem small_len {n : Nat} (h : n ≤ 1000000000000000000) : (bigL n).length ≤ 2 := bigL_len_le (Nat.lt_of_le_of_lt h (by decide))
theorem IsB.store {w : World} {x b i : Nat} {t : TypeId} {cs : Array Value} {v u : Value} (h : IsB w x v) (K : Blk w b t cs) (ht : t ≠ 2) : IsB (w.setCell ⟨b, i, none⟩ u) x v := by
 refine World.ownsRow.kept h (Src.grown_setCell w ⟨b, i, none⟩ u) ?_
 cases hb : v.ownBlock with
 | none => exact .inl rfl
 | some g =>
  refine .inr fun e => ?_
  have e : g = b := Option.some.inj e
  subst e
  obtain ⟨cur, h1, _⟩ := ownsRow_block h hb
  unfold Blk at K
  rw [K] at h1
  injection h1 with h1
  injection h1 with _ h3
  exact ht h3
theorem Parts.store {w : World} {q : Rat} {m b i : Nat} {s : Bool} {vn vd u : Value} {fine : Bool} {fn fd : Int} {n d : Nat} {t : TypeId} {cs : Array Value} (h : Parts w q m s vn vd fine fn fd n d) (K : Blk w b t cs) (ht : t ≠ 2) : Parts (w.setCell ⟨b, i, none⟩ u) q m s vn vd fine fn fd n d :=
 ⟨IsB.store h.num K ht, IsB.store h.den K ht, h.pos, h.val, h.ln, h.ld, h.small⟩
def put6 (w : World) (b : Nat) (v0 v1 v2 v3 v4 v5 : Value) : World := (((((w.setCell ⟨b, 0, none⟩ v0).setCell ⟨b, 1, none⟩ v1).setCell ⟨b, 2, none⟩ v2).setCell ⟨b, 3, none⟩ v3).setCell ⟨b, 4, none⟩ v4).setCell ⟨b, 5, none⟩ v5
theorem put6_blk {w : World} {b : Nat} {t : TypeId} {u0 u1 u2 u3 u4 u5 : Value} (K : Blk w b t #[u0, u1, u2, u3, u4, u5]) (v0 v1 v2 v3 v4 v5 : Value) : Blk (put6 w b v0 v1 v2 v3 v4 v5) b t #[v0, v1, v2, v3, v4, v5] :=
 (((((K.setTo 0 v0 rfl).setTo 1 v1 rfl).setTo 2 v2 rfl).setTo 3 v3 rfl).setTo 4 v4 rfl).setTo 5 v5 rfl
theorem put6_other {w : World} {b b' : Nat} {t : TypeId} {cs : Array Value} (K : Blk w b' t cs) (hne : b ≠ b') (v0 v1 v2 v3 v4 v5 : Value) : Blk (put6 w b v0 v1 v2 v3 v4 v5) b' t cs :=
 (((((K.other v0 hne).other v1 hne).other v2 hne).other v3 hne).other v4 hne).other v5 hne
theorem put6_below {w0 w : World} {b B : Nat} (h : Below B w0 w) (hb : B ≤ b) (v0 v1 v2 v3 v4 v5 : Value) : Below B w0 (put6 w b v0 v1 v2 v3 v4 v5) :=
 (((((h.setCell (p := ⟨b, 0, none⟩) hb v0).setCell (p := ⟨b, 1, none⟩) hb v1).setCell (p := ⟨b, 2, none⟩) hb v2).setCell (p := ⟨b, 3, none⟩) hb v3).setCell (p := ⟨b, 4, none⟩) hb v4).setCell (p := ⟨b, 5, none⟩) hb v5
theorem Parts.put6 {w : World} {q : Rat} {m b : Nat} {s : Bool} {vn vd : Value} {fine : Bool} {fn fd : Int} {n d : Nat} {t : TypeId} {u0 u1 u2 u3 u4 u5 : Value} (h : Parts w q m s vn vd fine fn fd n d) (K : Blk w b t #[u0, u1, u2, u3, u4, u5]) (ht : t ≠ 2) (v0 v1 v2 v3 v4 v5 : Value) : Parts (Wide.put6 w b v0 v1 v2 v3 v4 v5) q m s vn vd fine fn fd n d := by
 have K0 := K.setTo 0 v0 rfl
 have K1 := K0.setTo 1 v1 rfl
 have K2 := K1.setTo 2 v2 rfl
 have K3 := K2.setTo 3 v3 rfl
 have K4 := K3.setTo 4 v4 rfl
 exact (((((h.store K ht).store K0 ht).store K1 ht).store K2 ht).store K3 ht).store K4 ht
theorem WRet.put {w wq : World} {q : Rat} {m b : Nat} {s : Bool} {A1 A2 : Option Addr} {k1 k2 c1 c2 : Nat} {fine : Bool} {fn fd : Int} {n d : Nat} {u0 u1 u2 u3 u4 u5 : Value} (h : Parts wq q m s (.slice A1 k1 c1) (.slice A2 k2 c2) fine fn fd n d) (K : Blk wq b 107 #[u0, u1, u2, u3, u4, u5]) (hb : Below w.heap.size w wq) (hB : w.heap.size ≤ b) :
  WRet q m w (.returned (.agg #[.bool s, .slice A1 k1 c1, .slice A2 k2 c2, .bool fine, .int .i64 fn, .int .i64 fd])) (put6 wq b (.bool s) (.slice A1 k1 c1) (.slice A2 k2 c2) (.bool fine) (.int .i64 fn) (.int .i64 fd)) :=
 ⟨_, rfl, ⟨s, A1, k1, c1, A2, k2, c2, fine, fn, fd, n, d, rfl, h.put6 K (by decide) _ _ _ _ _ _⟩, put6_below hb hB _ _ _ _ _ _⟩
end Go.Proofs.YthagenodiofgnaaGreat.Wide

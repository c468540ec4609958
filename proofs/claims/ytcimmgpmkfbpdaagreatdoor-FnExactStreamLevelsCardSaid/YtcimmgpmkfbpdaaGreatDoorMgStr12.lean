/- Binomials by rows, of the reference. -/
import Derived.Test.YtcimmgpmkfbpdaaGreatDoorMgStr11
import Derived.Test.YtcimmgpmkfbpdaaGreatDoorMgStr08
import Derived.Test.YtcimmgpmkfbpdaaGreatDoorMgStr10
namespace Go.Proofs.YtcimmgpmkfbpdaaGreatDoor.LvC
open Go.RowKit Go.Proofs.YtcimmgpmkfbpdaaGreatDoor Go.Proofs.YtcimmgpmkfbpdaaGreatDoor.Base Go.Proofs.YtcimmgpmkfbpdaaGreatDoor.Mem Go.Proofs.YtcimmgpmkfbpdaaGreatDoor.Choose Go.Proofs.YtcimmgpmkfbpdaaGreatDoor.LvO
set_option linter.unusedVariables false
def ChRel (n : Nat) (w : World) (row iv : Value) (wr : World) : Prop := ∃ (i : Nat) (A : Option Addr) (c : Nat), i ≤ n ∧ row = .slice A (i + 1) c ∧ iv = .int .i64 (i : Int) ∧ RdI wr wr.heap.size A (fl (i + 1) (ch i)) ∧ Below w.heap.size w wr
def NxRel (i : Nat) (w : World) (nx jv : Value) (wr : World) : Prop := ∃ j : Nat, 1 ≤ j ∧ j ≤ i + 1 ∧ jv = .int .i64 (j : Int) ∧ OwnI wr w.heap.size nx (fl j (ch (i + 1))) ∧ Below w.heap.size w wr
theorem NxRel.next {i j : Nat} {w wr w1 w2 : World} {v v' : Value} (hj : 1 ≤ j) (hji : j < i + 1) (hO : OwnI wr w.heap.size v (fl j (ch (i + 1)))) (hb : Below w.heap.size w wr) (h1 : Below wr.heap.size wr w1)
  (hown : w2.ownsRow w.heap.size 2 1 v' (j + 1) (ints (fl j (ch (i + 1))) ++ [.int .i64 ((ch (i + 1) j : Nat) : Int)])) (hg : w1.grownBy w2 v.ownBlock) : NxRel i w v' (.int .i64 ((j : Int) + 1)) w2 := by
 obtain ⟨h2, h3⟩ := nextI hb.size hO hb h1 hown hg
 exact ⟨j + 1, by omega, by omega, by simp, h2, h3⟩
set_option maxHeartbeats 2000000 in
set_option maxRecDepth 100000 in
theorem l01Choose_any (n k : Nat) (w : World) (hn : n ≤ 50) (hk : k ≤ n) : Calls Tryz.prog 58 #[.int .i64 (n : Int), .int .i64 (k : Int)] w fun e w' => e = .returned (.int .i64 ((ch n k : Nat) : Int)) ∧ Below w.heap.size w w' := by
 obtain ⟨i0, hi, hz0, hz1, hz2⟩ := info_parts infoI
 have H0 : Hid (ChRel n w (.slice (some ⟨w.heap.size, 0, none⟩) 1 1) (.int .i64 0) (w.alloc (.cells #[.int .i64 1] 2))) :=
  Lib.hid ⟨0, _, 1, Nat.zero_le _, rfl, rfl, (lit1 w (Nat.le_refl _) (ch 0) rfl).rd, (Below.refl _ _).alloc (Nat.le_refl _) _⟩
 go_enter Tryz.func58, Tryz.ntmps58
 go_wp2
 go_loopw [5, 6] (fun row iv wr => ChRel n w row iv wr) (fun _ iv _ => n - (intOf iv).toNat)
 case atStart => exact H0.out
 case round =>
  obtain ⟨i, A, c, hin, rfl, rfl, hr, hb⟩ := hrel
  obtain ⟨wo, rfl⟩ : ∃ x, x = wr := ⟨_, rfl⟩
  have HR := Lib.hid hr
  have HB := Lib.hid hb
  clear hr hb H0
  by_cases hlt : i < n
  ·have H1 : Hid (NxRel i wo (.slice (some ⟨wo.heap.size, 0, none⟩) 1 1) (.int .i64 1) (wo.alloc (.cells #[.int .i64 1] 2))) :=
    Lib.hid ⟨1, Nat.le_refl _, by omega, rfl, lit1 wo (Nat.le_refl _) (ch (i + 1)) (by rw [ch_zero]; rfl), (Below.refl _ _).alloc (Nat.le_refl _) _⟩
   go_wp2
   go_loopw [7, 8] (fun nx jv wr => NxRel i wo nx jv wr) (fun _ jv _ => i + 1 - (intOf jv).toNat)
   case atStart => exact H1.out
   case round =>
    obtain ⟨j, hj1, hj2, rfl, hO, hb⟩ := hrel
    obtain ⟨wp, rfl⟩ : ∃ x, x = wr := ⟨_, rfl⟩
    have HO := Lib.hid hO
    have HB2 := Lib.hid hb
    have hsz := hb.size
    clear hO hb H1
    have hown := World.ownsRow.alloc HO.out (.cells #[.int .i64 ((ch (i + 1) j : Nat) : Int)] 2)
    rw [fl_len] at hown
    by_cases hji : j < i + 1
    ·have HN := Lib.hid (fun v v' w1 w2 h1 h2 h3 h4 h5 => NxRel.next (i := i) (j := j) (w := wo) (wr := wp) (w1 := w1) (w2 := w2) (v := v) (v' := v') hj1 hji h1 h2 h3 h4 h5)
     obtain ⟨b, off, rfl, hlt2, hc⟩ := (HR.out.below HB2.out (Nat.le_refl _)) (by rw [fl_len]; omega)
     have g1 := hc (j - 1) (by rw [fl_len]; omega)
     have g2 := hc j (by rw [fl_len]; omega)
     rw [fl_at _ (by omega)] at g1 g2
     obtain ⟨j, rfl⟩ : ∃ m, j = m + 1 := ⟨j - 1, by omega⟩
     rw [Nat.add_sub_cancel] at g1
     have hx := ch_le2 i j
     have hy := ch_le2 i (j + 1)
     have hp : (2 : Nat) ^ i ≤ 2 ^ 50 := Nat.pow_le_pow_right (by decide) (by omega)
     rw [show ch (i + 1) (j + 1) = ch i j + ch i (j + 1) by rw [ch]] at HN hown
     generalize ch i j = x at *
     generalize ch i (j + 1) = y at *
     have hw1 : IntKind.i64.wrap (j : Int) = (j : Int) := by rw [IntKind.wrap_i64]; omega
     have hw2 : IntKind.i64.wrap ((x : Int) + (y : Int)) = ((x + y : Nat) : Int) := by rw [IntKind.wrap_i64]; omega
     have HW := Lib.hid hown
     have hb1 : (j : Int) < (i : Int) + 1 := by omega
     have hb3 : (j : Int) + 1 < (i : Int) + 1 := by omega
     have hb4 : (0 : Int) ≤ (j : Int) + 1 := by omega
     clear hown hc hx hy hp
     go_wp2_with fail
     go_region_law ((refine step_append_lies _ (by rfl) _ _ _ (by rfl) wo.heap.size 2 i0 _ 1 8 Tryz.underlying63 hi hz0 hz1 hz2 rfl (by omega) u7 (j + 1) _ (by rfl) ((HW.out).drew) ⟨wp.heap.size, 0, none⟩ 1 1 [.int .i64 ((x + y : Nat) : Int)] (by rfl) (by rfl) (World.news_of_block (cs := #[.int .i64 ((x + y : Nat) : Int)]) (t := 2) (fr := (0, 0)) (heap_alloc_new wp _)) one_int (by omega) (by simp only [maxLen]; omega) (by omega) (by first | omega | (simp; omega)) (wp.heap.size + 1) (by simp) ?_; intro gg cap w3 hown1 hgrow hat hlt2; have HQ2 := Lib.hid (HN.out _ _ _ w3 HO.out HB2.out (((Below.refl _ _).alloc (Nat.le_refl _) _).drew) hown1 hgrow); clear hown1 hgrow hat))
     all_goals
      go_wp2
      go_roundw
      case rel => exact HQ2.out
      case measure => first | (simp [intOf]; done) | (simp [intOf]; omega)
    ·obtain rfl : j = i + 1 := by omega
     rw [ch_self] at hown
     have HW := Lib.hid hown
     clear hown
     go_wp2_with (at_builtin; refine wpList_append_own_at _ rfl (.tmp 35) (.tmp 36) 63 rfl wo.heap.size 2 i0 (.int .i64 0) 1 8 Tryz.underlying63 hi hz0 hz1 hz2 rfl (by decide) _ _ _ rfl HW.out ⟨wp.heap.size, 0, none⟩ 1 1 [.int .i64 1] rfl rfl ?p1a ?p2a ?p3a ?p4a ?p5a ?_)
     try case p1a => exact news_one _ _ _ (by simp)
     try case p2a => first | exact one_int | rfl | simp
     try case p3a => first | (simp only [maxLen]; omega) | omega
     try case p4a => omega
     try case p5a => first | (simp only [World.size_alloc]; omega) | omega
     intro v' w2 hown' hg' _ he
     have HN : Hid (ChRel n w v' (.int .i64 ((i : Int) + 1)) w2) := Lib.hid (by
      obtain ⟨h2, h3⟩ := nextI (f := ch (i + 1)) HB2.out.size HO.out HB2.out ((Below.refl _ _).alloc (Nat.le_refl _) _) (by rw [ch_self]; exact hown') hg'
      obtain ⟨A3, c3, e3, _⟩ := h2.form
      subst e3
      refine ⟨i + 1, A3, c3, hlt, by rw [fl_len], by simp, h2.rd, HB.out.trans (h3.mono HB.out.size)⟩)
     clear hown' hg' he
     go_wp2
     go_roundw
     case rel => exact HN.out
     case measure => simp [intOf]; omega
  ·obtain rfl : i = n := by omega
   obtain ⟨b, off, rfl, hlt2, hc⟩ := HR.out (by rw [fl_len]; omega)
   have g1 := hc k (by rw [fl_len]; omega)
   rw [fl_at _ (by omega)] at g1
   clear hc
   go_wp2
   go_ret
   exact ⟨rfl, HB.out⟩
end Go.Proofs.YtcimmgpmkfbpdaaGreatDoor.LvC
namespace Go.Proofs.YtcimmgpmkfbpdaaGreatDoor.LvU
open Go.RowKit Go.Proofs.YtcimmgpmkfbpdaaGreatDoor Go.Proofs.YtcimmgpmkfbpdaaGreatDoor.Base Go.Proofs.YtcimmgpmkfbpdaaGreatDoor.Mem Go.Proofs.YtcimmgpmkfbpdaaGreatDoor.LvM Go.Proofs.YtcimmgpmkfbpdaaGreatDoor.LvO
set_option linter.unusedVariables false
def nxt (m i k j : Nat) : Nat := if j = 1 then sm (k - 1) (fun t => U m i (t + 1)) else if 2 ≤ j ∧ j ≤ k then U m i (j - 1) else 0
def nxA (m i k j : Nat) : Nat := if j = 1 then sm k (fun t => U m i (t + 1)) else if 2 ≤ j ∧ j ≤ k then U m i (j - 1) else 0
theorem nxt_start (m i : Nat) : fl (m + 1) (fun _ => 0) = fl (m + 1) (nxt m i 1) := fl_congr fun j hj => by
 unfold nxt
 by_cases h : j = 1
 ·rw [if_pos h]; rfl
 ·rw [if_neg h, if_neg (by omega)]
theorem nxt_one {m i k x : Nat} (hx : x = sm k (fun t => U m i (t + 1))) : (fl (m + 1) (nxt m i k)).set 1 ((x : Nat) : Int) = fl (m + 1) (nxA m i k) := by
 rw [fl_set]
 refine fl_congr fun j hj => ?_
 unfold nxt nxA
 by_cases h : j = 1
 ·rw [if_pos h, if_pos h, hx]
 ·rw [if_neg h, if_neg h, if_neg h]
theorem nxt_two {m i k x : Nat} (hk : 1 ≤ k) (hx : x = U m i k) : (fl (m + 1) (nxA m i k)).set (k + 1) ((x : Nat) : Int) = fl (m + 1) (nxt m i (k + 1)) := by
 rw [fl_set]
 refine fl_congr fun j hj => ?_
 unfold nxt nxA
 by_cases h : j = k + 1
 ·rw [if_pos h, if_neg (by omega), if_pos (by omega), hx, h, Nat.add_sub_cancel]
 ·rw [if_neg h, Nat.add_sub_cancel]
  by_cases h1 : j = 1
  ·rw [if_pos h1, if_pos h1]
  ·rw [if_neg h1, if_neg h1]
   by_cases h2 : 2 ≤ j ∧ j ≤ k
   ·rw [if_pos h2, if_pos (by omega)]
   ·rw [if_neg h2, if_neg (by omega)]
theorem nxt_last (m i : Nat) : fl (m + 1) (nxA m i m) = fl (m + 1) (nxt m i (m + 1)) := fl_congr fun j hj => by
 unfold nxt nxA
 rw [Nat.add_sub_cancel]
 by_cases h1 : j = 1
 ·rw [if_pos h1, if_pos h1]
 ·rw [if_neg h1, if_neg h1]
  by_cases h2 : 2 ≤ j ∧ j ≤ m
  ·rw [if_pos h2, if_pos (by omega)]
  ·rw [if_neg h2, if_neg (by omega)]
theorem nxt_end {m i : Nat} (hm : 1 ≤ m) (hi : 1 ≤ i) : fl (m + 1) (nxt m i (m + 1)) = fl (m + 1) (U m (i + 1)) := fl_congr fun j hj => by
 unfold nxt
 rw [Nat.add_sub_cancel]
 by_cases h1 : j = 1
 ·rw [if_pos h1, h1, U_first hm hi]
 ·rw [if_neg h1]
  by_cases h2 : 2 ≤ j
  ·rw [if_pos ⟨h2, by omega⟩, ← U_next (m := m) (i := i) (j := j - 1) (by omega) (by omega), show j - 1 + 1 = j by omega]
  ·rw [if_neg (by omega)]
   unfold U
   rw [if_neg (by omega)]
theorem nxt_bd {m i k : Nat} (hi : 1 ≤ i) (hi2 : i ≤ 50) (hk : k ≤ m) : sm k (fun t => U m i (t + 1)) ≤ 2251799813685248 := by
 have h1 : sm k (fun t => U m i (t + 1)) ≤ sm m (fun t => U m i (t + 1)) := sm_mono hk
 rw [U_sum hi] at h1
 have h2 := W_bound m i
 have h3 : (2 : Nat) ^ i ≤ 2 ^ 50 := Nat.pow_le_pow_right (by decide) hi2
 omega
def UpO (n m : Nat) (w : World) (now iv : Value) (wr : World) : Prop := ∃ i g, 1 ≤ i ∧ i ≤ n ∧ now = .slice (some ⟨g, 0, none⟩) (m + 1) (m + 1) ∧ iv = .int .i64 (i : Int) ∧ Hid (OwnI wr w.heap.size (.slice (some ⟨g, 0, none⟩) (m + 1) (m + 1)) (fl (m + 1) (U m i))) ∧ Hid (Below w.heap.size w wr)
def UpI (m i : Nat) (w : World) (kv : Value) (wr : World) : Prop := ∃ k, 1 ≤ k ∧ k ≤ m + 1 ∧ kv = .int .i64 (k : Int) ∧ Hid (OwnI wr w.heap.size (.slice (some ⟨w.heap.size, 0, none⟩) (m + 1) (m + 1)) (fl (m + 1) (nxt m i k))) ∧ Hid (Below w.heap.size w wr)
theorem up_start {m : Nat} (hm : 1 ≤ m) : (fl (m + 1) (fun _ => 0)).set 1 ((2 : Nat) : Int) = fl (m + 1) (U m 1) := by
 rw [fl_set]
 exact fl_congr fun j hj => (U_one hm j).symm
set_option maxHeartbeats 4000000 in
set_option maxRecDepth 100000 in
theorem upTo_any (n m : Nat) (w : World) (hn : 1 ≤ n) (hn2 : n ≤ 50) (hm : 1 ≤ m) (hm2 : m ≤ 50) : Calls Tryz.prog 60 #[.int .i64 (n : Int), .int .i64 (m : Int)] w fun e w' => e = .returned (.int .i64 ((2 * W m n : Nat) : Int)) ∧ Below w.heap.size w w' := by
 have hmk := run_make_row' (P := Tryz.prog) 63 2 (.int .i64 0) 8 Tryz.underlying63 infoI rfl .i64 .i64 (m + 1) (by omega) (by omega)
 rw [show ((m + 1 : Nat) : Int) = (m : Int) + 1 by simp] at hmk
 have HM0 := made w (B := w.heap.size) (n := m + 1) (Nat.le_refl _) (by omega)
 obtain ⟨c1, f1⟩ := rdO HM0 (i := 1) (by omega)
 have HS0 := Lib.hid (setO 2 HM0 (up_start hm))
 have HB0 := Lib.hid (((Below.refl w.heap.size w).alloc (Nat.le_refl _) (.cells (madeCells #[.int .i64 0] (m + 1)) 2)).setCell (p := ⟨w.heap.size, 1, none⟩) (Nat.le_refl _) (.int .i64 ((2 : Nat) : Int)))
 have hset : ∀ v, (w.alloc (.cells (madeCells #[.int .i64 0] (m + 1)) 2)).setCell ⟨w.heap.size, 1, none⟩ v = w.alloc (.cells ((madeCells #[.int .i64 0] (m + 1)).setIfInBounds 1 v) 2) := fun v => by go_simp
 rw [hset, show ((2 : Nat) : Int) = 2 from rfl] at HS0 HB0
 have h1m : (1 : Int) < (m : Int) + 1 := by omega
 clear HM0 hset
 go_enter Tryz.func60, Tryz.ntmps60
 go_wp2
 go_loopw [5, 6] (fun now iv wr => UpO n m w now iv wr) (fun _ iv _ => n - (intOf iv).toNat)
 case atStart => exact ⟨1, w.heap.size, Nat.le_refl _, hn, rfl, rfl, HS0, HB0⟩
 case round =>
  obtain ⟨i, g, hi1, hin, rfl, rfl, HO, HB⟩ := hrel
  obtain ⟨wo, rfl⟩ : ∃ x, x = wr := ⟨_, rfl⟩
  clear c1 f1 HS0 HB0
  by_cases hlt : i < n
  ·have HM1 := made wo (B := wo.heap.size) (n := m + 1) (Nat.le_refl _) (by omega)
   rw [nxt_start m i] at HM1
   have HM1 := Lib.hid HM1
   have HG : Hid (g < wo.heap.size) := Lib.hid (by
    obtain ⟨_, _, _, h⟩ := ownsRow_block HO.out (g := g) rfl
    exact h)
   go_wp2
   go_loopw [8] (fun kv wr => UpI m i wo kv wr) (fun kv _ => m + 1 - (intOf kv).toNat)
   case atStart => exact ⟨1, Nat.le_refl _, by omega, rfl, HM1, Lib.hid ((Below.refl _ _).alloc (Nat.le_refl _) _)⟩
   case round =>
    obtain ⟨k, hk1, hk2, rfl, HI, HBI⟩ := hrel
    obtain ⟨wp, rfl⟩ : ∃ x, x = wr := ⟨_, rfl⟩
    clear HM1
    by_cases hkm : k ≤ m
    ·obtain ⟨c1, f1⟩ := rdO HI.out (i := 1) (by omega)
     obtain ⟨d1, _⟩ := rdO HO.out (i := k) (by omega)
     replace d1 := (HBI.out.cell (p := ⟨g, k, none⟩) HG.out).trans d1
     have hb1 := nxt_bd (m := m) (k := k) hi1 (by omega) hkm
     have e1 : nxt m i k 1 = sm (k - 1) (fun t => U m i (t + 1)) := if_pos rfl
     have e2 : sm k (fun t => U m i (t + 1)) = sm (k - 1) (fun t => U m i (t + 1)) + U m i k := by
      obtain ⟨k, rfl⟩ : ∃ q, k = q + 1 := ⟨k - 1, by omega⟩
      rw [sm, Nat.add_sub_cancel]
     rw [e1] at c1
     obtain ⟨y, hy⟩ : ∃ y, y = U m i k := ⟨_, rfl⟩
     obtain ⟨S, hS⟩ : ∃ S, S = sm (k - 1) (fun t => U m i (t + 1)) := ⟨_, rfl⟩
     rw [← hy] at d1 e2
     rw [← hS] at c1 e2
     have hso := setO (i := 1) (S + y) HI.out (nxt_one (m := m) (i := i) (k := k) e2.symm)
     have hsb := HBI.out.setCell (p := ⟨wo.heap.size, 1, none⟩) (Nat.le_refl _) (.int .i64 ((S + y : Nat) : Int))
     rw [show ((S + y : Nat) : Int) = (S : Int) + (y : Int) by simp] at hso hsb
     have HI1 := Lib.hid (hso.below ((Below.refl _ _).drew))
     have HB1 := Lib.hid hsb.drew
     clear hso hsb
     have HG1 : Hid (((wp.setCell ⟨wo.heap.size, 1, none⟩ (.int .i64 ((S : Int) + (y : Int)))).drew).cell? ⟨g, k, none⟩ = some (.int .i64 (y : Int))) := Lib.hid (by
      have := (HB1.out.cell (p := ⟨g, k, none⟩) HG.out).trans (rdO HO.out (i := k) (by omega)).1
      exact this.trans (by rw [hy]))
     have HY := Lib.hid hy
     have hw1 : IntKind.i64.wrap ((S : Int) + (y : Int)) = ((S + y : Nat) : Int) := by rw [IntKind.wrap_i64]; omega
     have hb2 : (k : Int) < (m : Int) + 1 := by omega
     have hb3 : (0 : Int) ≤ (k : Int) := by omega
     have hy2 : y ≤ 2251799813685248 := by omega
     have hkm2 : (k : Int) ≤ (m : Int) := by omega
     clear e1 e2 hy hS hb1
     go_wp2_with fail
     go_region
     generalize (wp.setCell ⟨wo.heap.size, 1, none⟩ (.int .i64 ((S : Int) + (y : Int)))).drew = W1 at *
     by_cases hkl : k < m
     ·obtain ⟨c2, f2⟩ := rdO HI1.out (i := k + 1) (by omega)
      have e3 : nxA m i k (k + 1) = 0 := by unfold nxA; rw [if_neg (by omega), if_neg (by omega)]
      rw [e3] at c2
      have g2 := HG1.out
      have HI2 := Lib.hid ((setO (i := k + 1) y HI1.out (nxt_two (m := m) (i := i) (k := k) hk1 HY.out)).below ((Below.refl _ _).drew))
      have HB2 := Lib.hid ((HB1.out.setCell (p := ⟨wo.heap.size, k + 1, none⟩) (Nat.le_refl _) (.int .i64 (y : Int))).drew)
      have hw2 : IntKind.i64.wrap ((k : Int) + 1) = (k : Int) + 1 := by rw [IntKind.wrap_i64]; omega
      have hw3 : IntKind.i64.wrap (0 + (y : Int)) = (y : Int) := by rw [IntKind.wrap_i64]; omega
      have hw4 : IntKind.i64.wrap (y : Int) = (y : Int) := by rw [IntKind.wrap_i64]; omega
      have hb4 : (k : Int) + 1 < (m : Int) + 1 := by omega
      have hb5 : (0 : Int) ≤ (k : Int) + 1 := by omega
      have hkl2 : (k : Int) < (m : Int) := by omega
      clear e3 hw1
      go_wp2_with fail
      go_region
      go_wp2_with fail
      go_roundw
      case rel => exact ⟨k + 1, by omega, by omega, by simp, HI2, HB2⟩
      case measure => simp [intOf]; omega
     ·obtain rfl : k = m := by omega
      rw [nxt_last k i] at HI1
      go_wp2_with fail
      go_roundw
      case rel => exact ⟨k + 1, by omega, by omega, by simp, HI1, HB1⟩
      case measure => simp [intOf]
    ·obtain rfl : k = m + 1 := by omega
     rw [nxt_end hm hi1] at HI
     go_wp2
     go_roundw
     case rel => exact ⟨i + 1, wo.heap.size, by omega, hlt, rfl, by simp, Lib.hid (ownsRow_base HI.out HB.out.size), Lib.hid (HB.out.trans (HBI.out.mono HB.out.size))⟩
     case measure => simp [intOf]; omega
  ·obtain rfl : i = n := by omega
   clear hmk
   go_wp2
   go_loop [9, 10] (fun sv kv => ∃ k, k ≤ m ∧ kv = .int .i64 ((k : Int) + 1) ∧ sv = .int .i64 ((sm k (fun t => U m i (t + 1)) : Nat) : Int)) (fun _ kv => m + 1 - (intOf kv).toNat)
   case atStart => exact ⟨0, Nat.zero_le _, rfl, rfl⟩
   case round =>
    obtain ⟨k, hk, rfl, rfl⟩ := hrel
    by_cases hkm : k < m
    ·obtain ⟨c1, _⟩ := rdO HO.out (i := k + 1) (by omega)
     have hb1 := nxt_bd (m := m) (k := k + 1) hi1 (by omega) hkm
     have e1 : sm (k + 1) (fun t => U m i (t + 1)) = sm k (fun t => U m i (t + 1)) + U m i (k + 1) := rfl
     rw [e1] at hb1
     have HE := Lib.hid e1
     clear e1
     generalize sm k (fun t => U m i (t + 1)) = S at *
     generalize U m i (k + 1) = y at *
     go_wp2
     go_round
     case rel => exact ⟨k + 1, hkm, by go_num, by rw [HE.out]; go_num⟩
     case measure => simp [intOf]; omega
    ·obtain rfl : k = m := by omega
     rw [U_sum hi1]
     go_wp2
     go_ret
     exact ⟨rfl, HB.out⟩
end Go.Proofs.YtcimmgpmkfbpdaaGreatDoor.LvU
namespace Go.Proofs.YtcimmgpmkfbpdaaGreatDoor.LvL
open Go.RowKit Go.Proofs.YtcimmgpmkfbpdaaGreatDoor Go.Proofs.YtcimmgpmkfbpdaaGreatDoor.Base Go.Proofs.YtcimmgpmkfbpdaaGreatDoor.Mem Go.Proofs.YtcimmgpmkfbpdaaGreatDoor.MemF Go.Proofs.YtcimmgpmkfbpdaaGreatDoor.GiveM Go.Proofs.YtcimmgpmkfbpdaaGreatDoor.RatM Go.Proofs.YtcimmgpmkfbpdaaGreatDoor.LvM Go.Proofs.YtcimmgpmkfbpdaaGreatDoor.LvQ Go.Proofs.YtcimmgpmkfbpdaaGreatDoor.LvO Go.Proofs.YtcimmgpmkfbpdaaGreatDoor.LvT Go.Proofs.YtcimmgpmkfbpdaaGreatDoor.Blk Go.Proofs.YtcimmgpmkfbpdaaGreatDoor.Choose
set_option linter.unusedVariables false
def LnRel (C : Cnt) (w : World) (ov : Value) (k : Nat) (wr : World) : Prop :=
 Hid (OwnI wr (w.heap.size + 1) ov (fl k (cz C))) ∧ Hid (Blk wr w.heap.size 65 #[.slice none 0 0, .slice none 0 0]) ∧ Hid (Below w.heap.size w wr)
theorem LnRel.lit {C : Cnt} {w : World} {x : Int} (hx : x = ((cz C 0 : Nat) : Int)) : LnRel C w (.slice (some ⟨w.heap.size + 1, 0, none⟩) 1 1) 1 ((w.alloc (.cells #[.slice none 0 0, .slice none 0 0] 65)).alloc (.cells #[.int .i64 x] 2)) := by
 refine ⟨Lib.hid ?_, Lib.hid ((Blk.new w _ _).alloc _), Lib.hid (((Below.refl _ _).alloc (Nat.le_refl _) _).alloc (by simp) _)⟩
 have := lit1 (w.alloc (.cells #[.slice none 0 0, .slice none 0 0] 65)) (B := w.heap.size + 1) (by simp) (cz C) hx
 simpa using this
theorem LnRel.nil (C : Cnt) (w : World) : LnRel C w (.slice (some ⟨w.heap.size + 1, 0, none⟩) 0 0) 0 ((w.alloc (.cells #[.slice none 0 0, .slice none 0 0] 65)).alloc (.cells #[] 2)) := by
 refine ⟨Lib.hid ?_, Lib.hid ((Blk.new w _ _).alloc _), Lib.hid (((Below.refl _ _).alloc (Nat.le_refl _) _).alloc (by simp) _)⟩
 have := lit0 (w.alloc (.cells #[.slice none 0 0, .slice none 0 0] 65)) (B := w.heap.size + 1) (by simp) (cz C)
 simpa using this
theorem LnRel.next {C : Cnt} {w wr w1 w2 : World} {k : Nat} {v v' : Value} (h : LnRel C w v k wr) (h1 : Below wr.heap.size wr w1)
  (hown : w2.ownsRow (w.heap.size + 1) 2 1 v' (k + 1) (ints (fl k (cz C)) ++ [.int .i64 ((cz C k : Nat) : Int)])) (hg : w1.grownBy w2 v.ownBlock) : LnRel C w v' (k + 1) w2 := by
 obtain ⟨hO, hK, hB⟩ := h
 obtain ⟨p1, p2⟩ := nextI (w0 := wr) hK.out.lt hO.out (Below.refl _ _) h1 hown hg
 exact ⟨Lib.hid p1, Lib.hid (hK.out.below p2 (Nat.lt_succ_self _)), Lib.hid (hB.out.trans (p2.mono (Nat.le_succ _)))⟩
theorem LnRel.row {C : Cnt} {w wr w2 : World} {k : Nat} {v : Value} (h : LnRel C w v k wr) (hb : Below wr.heap.size wr w2) (x : Int) : (w2.alloc (.cells #[.int .i64 x] 2)).ownsRow (w.heap.size + 1) 2 1 v k (ints (fl k (cz C))) := by
 have := World.ownsRow.alloc (OwnI.below h.1.out hb) (.cells #[.int .i64 x] 2)
 rw [fl_len] at this
 exact this
theorem pw_int {n M : Nat} (hn : n ≤ 50) (hM : M = 2 ^ n) : wrap64 ((2 : Int) ^ n) = (M : Int) := by
 have h3 : (2 : Nat) ^ n ≤ 2 ^ 50 := Nat.pow_le_pow_right (by decide) hn
 rw [show (2 : Int) ^ n = ((2 ^ n : Nat) : Int) by simp, ← hM]
 unfold wrap64
 omega
theorem counted_k {A : Option Addr} {c B n M K : Nat} {C : Cnt} (hK : K = C.first + C.many) (hC : C.ok n) (hn : n ≤ 50) (hM : M = 2 ^ n) (w : World) (hx : RdI w B A (fl K (cz C))) (hB : B ≤ w.heap.size) :
  Calls Tryz.prog 59 #[.slice A K c, .int .i64 (M : Int)] w (LawRet C n w) := by
 subst hK
 exact counted_any hC hn hM w hx hB
set_option maxHeartbeats 4000000 in
set_option maxRecDepth 100000 in
theorem ones_any (n : Nat) (hn50 : n ≤ 50) (w : World) : Calls Tryz.prog 26 #[.int .i64 (n : Int)] w (LawRet (onesC n) n w) := by
 obtain ⟨i0, hi, hz0, hz1, hz2⟩ := info_parts infoI
 have H0 := Lib.hid (LnRel.nil (onesC n) w)
 have hcz : ∀ k, cz (onesC n) k = ch n k := fun k => by unfold cz onesC; simp
 have HCZ := Lib.hid hcz
 clear hcz
 go_enter Tryz.func26, Tryz.ntmps26
 go_wp2
 go_loopw [3, 4] (fun ov kv wr => ∃ k : Nat, k ≤ n + 1 ∧ kv = .int .i64 (k : Int) ∧ LnRel (onesC n) w ov k wr) (fun _ kv _ => n + 1 - (intOf kv).toNat)
 case atStart => exact ⟨0, Nat.zero_le _, rfl, H0.out⟩
 case round =>
  obtain ⟨k, hk, rfl, HR⟩ := hrel
  obtain ⟨wo, rfl⟩ : ∃ x, x = wr := ⟨_, rfl⟩
  by_cases hlt : k ≤ n
  ·have HCh := Lib.hid (LvC.l01Choose_any n k wo hn50 hlt)
   have hle := ch_le2 n k
   have HRR := Lib.hid HR
   have hw := HR.2.1.out.lt
   have hcz := HCZ.out k
   clear H0 HR
   go_wp2_with fail
   refine HCh.out.mono ?_
   rintro e w2 ⟨rfl, hb2⟩
   rw [← hcz]
   have HW := Lib.hid (HRR.out.row hb2 ((cz (onesC n) k : Nat) : Int))
   have HB2 := Lib.hid hb2
   have hs2 := hb2.size
   clear hb2 hcz hle
   go_wp2_with (at_builtin; refine wpList_append_own_at _ rfl (.tmp 11) (.tmp 15) 63 rfl (w.heap.size + 1) 2 i0 (.int .i64 0) 1 8 Tryz.underlying63 hi hz0 hz1 hz2 rfl (by decide) _ _ _ rfl HW.out ⟨w2.heap.size, 0, none⟩ 1 1 [.int .i64 ((cz (onesC n) k : Nat) : Int)] rfl rfl ?p1a ?p2a ?p3a ?p4a ?p5a ?_)
   try case p1a => exact news_one _ _ _ (by simp)
   try case p2a => first | exact one_int | rfl | simp
   try case p3a => first | (simp only [maxLen]; omega) | omega
   try case p4a => omega
   try case p5a => first | (simp only [World.size_alloc]; omega) | omega
   intro v' w3 hown' hg' _ he
   have HN := Lib.hid (HRR.out.next (HB2.out.alloc HB2.out.size _) hown' hg')
   clear hown' hg' he
   go_wp2
   go_roundw
   case rel => exact ⟨k + 1, by omega, by simp, HN.out⟩
   case measure => simp [intOf]; omega
  ·obtain rfl : k = n + 1 := by omega
   obtain ⟨A1, c1, e5, _⟩ := HR.1.out.form
   rw [fl_len] at e5
   subst e5
   have HCt := Lib.hid (counted_k (C := onesC n) (K := (n + 1)) (c := c1) (by show n + 1 = 0 + (n + 1); omega) (onesC_ok n) hn50 rfl wo (OwnI.rd HR.1.out) (Nat.le_refl _))
   have hpw := pw_int hn50 rfl
   have HR2 := Lib.hid HR
   clear HR
   go_wp2_with fail
   rw [hpw]
   refine HCt.out.mono ?_
   rintro e w3 ⟨v, rfl, ⟨A3, c3, A4, c4, rfl, o3, o4⟩, b3⟩
   have K3 := HR2.out.2.1.out.belowS b3
   have r0 := K3.at 0 (v := .slice none 0 0) rfl
   have r1 := K3.at 1 (v := .slice none 0 0) rfl
   have f0 := K3.frz 0
   have f1 := K3.frz 1
   have KK := (K3.setTo 0 (.slice A3 (onesC n).many c3) rfl).setTo 1 (.slice A4 (onesC n).many c4) rfl
   have k0 := KK.at 0 (v := .slice A3 (onesC n).many c3) rfl
   have k1 := KK.at 1 (v := .slice A4 (onesC n).many c4) rfl
   have HFIN := Lib.hid (LawRet.put (w := w) o3 o4 (Nat.lt_of_lt_of_le (Nat.lt_succ_self _) (Nat.le_trans HR2.out.2.1.out.lt (Nat.le_refl _))) (Base.Below.nextA HR2.out.2.2.out b3))
   clear KK K3 o3 o4 b3 HCt hpw
   generalize (onesC n).many = mm at *
   go_wp2
   refine bodyPost_ret (v := .agg #[.slice A3 mm c3, .slice A4 mm c4]) (by simp [results, Tryz.results26, go_sem, k0, k1]) rfl ?_
   exact HFIN.out
set_option maxHeartbeats 4000000 in
set_option maxRecDepth 100000 in
theorem runs_any (n : Nat) (hn1 : 1 ≤ n) (hn50 : n ≤ 50) (w : World) : Calls Tryz.prog 28 #[.int .i64 (n : Int)] w (LawRet (runsC n) n w) := by
 obtain ⟨i0, hi, hz0, hz1, hz2⟩ := info_parts infoI
 have H0 := Lib.hid (LnRel.lit (C := runsC n) (w := w) (x := 0) rfl)
 have HCZ : Hid (∀ k, cz (runsC n) (k + 1) = 2 * ch (n - 1) k) := Lib.hid (fun k => by unfold cz runsC; simp)
 go_enter Tryz.func28, Tryz.ntmps28
 go_wp2
 go_loopw [3, 4] (fun ov kv wr => ∃ k : Nat, k ≤ n ∧ kv = .int .i64 (k : Int) ∧ LnRel (runsC n) w ov (k + 1) wr) (fun _ kv _ => n - (intOf kv).toNat)
 case atStart => exact ⟨0, Nat.zero_le _, rfl, H0.out⟩
 case round =>
  obtain ⟨k, hk, rfl, HR⟩ := hrel
  obtain ⟨wo, rfl⟩ : ∃ x, x = wr := ⟨_, rfl⟩
  by_cases hlt : k < n
  ·obtain ⟨n1, hn⟩ : ∃ m, m = n - 1 := ⟨_, rfl⟩
   have hnn : (n : Int) - 1 = (n1 : Int) := by omega
   have HCh := Lib.hid (LvC.l01Choose_any n1 k wo (by omega) (by omega))
   have hle := ch_le2 n1 k
   have hp : (2 : Nat) ^ n1 ≤ 2 ^ 49 := Nat.pow_le_pow_right (by decide) (by omega)
   have HRR := Lib.hid HR
   have hw := HR.2.1.out.lt
   have hcz := HCZ.out k
   rw [← hn] at hcz
   have HNN := Lib.hid hnn
   clear H0 HR hn hnn
   have h2x : ((cz (runsC n) (k + 1) : Nat) : Int) = 2 * ((ch n1 k : Nat) : Int) := by rw [hcz]; simp
   have H2X := Lib.hid h2x
   clear hcz h2x
   obtain ⟨x, hx⟩ : ∃ x, x = ch n1 k := ⟨_, rfl⟩
   rw [← hx] at HCh H2X hle
   clear hx
   go_wp2_with fail
   rw [HNN.out]
   refine HCh.out.mono ?_
   rintro e w2 ⟨rfl, hb2⟩
   have hx49 : x ≤ 562949953421312 := by omega
   have HW := Lib.hid (HRR.out.row hb2 (2 * (x : Int)))
   have HB2 := Lib.hid hb2
   have hs2 := hb2.size
   clear hb2 hle
   go_wp2_with (at_builtin; refine wpList_append_own_at _ rfl (.tmp 11) (.tmp 17) 63 rfl (w.heap.size + 1) 2 i0 (.int .i64 0) 1 8 Tryz.underlying63 hi hz0 hz1 hz2 rfl (by decide) _ _ _ rfl HW.out ⟨w2.heap.size, 0, none⟩ 1 1 [.int .i64 (2 * (x : Int))] rfl rfl ?p1a ?p2a ?p3a ?p4a ?p5a ?_)
   try case p1a => exact news_one _ _ _ (by simp)
   try case p2a => first | exact one_int | rfl | simp
   try case p3a => first | (simp only [maxLen]; omega) | omega
   try case p4a => omega
   try case p5a => first | (simp only [World.size_alloc]; omega) | omega
   intro v' w3 hown' hg' _ he
   rw [← H2X.out] at hown'
   have HN := Lib.hid (HRR.out.next (HB2.out.alloc HB2.out.size _) hown' hg')
   clear hown' hg' he
   go_wp2
   go_roundw
   case rel => exact ⟨k + 1, by omega, by simp, HN.out⟩
   case measure => simp [intOf]; omega
  ·obtain rfl : k = n := by omega
   obtain ⟨A1, c1, e5, _⟩ := HR.1.out.form
   rw [fl_len] at e5
   subst e5
   have HCt := Lib.hid (counted_k (C := runsC k) (K := (k + 1)) (c := c1) (by show k + 1 = 1 + k; omega) (runsC_ok hn1) hn50 rfl wo (OwnI.rd HR.1.out) (Nat.le_refl _))
   have hpw := pw_int hn50 rfl
   have HR2 := Lib.hid HR
   clear HR
   go_wp2_with fail
   rw [hpw]
   refine HCt.out.mono ?_
   rintro e w3 ⟨v, rfl, ⟨A3, c3, A4, c4, rfl, o3, o4⟩, b3⟩
   have K3 := HR2.out.2.1.out.belowS b3
   have r0 := K3.at 0 (v := .slice none 0 0) rfl
   have r1 := K3.at 1 (v := .slice none 0 0) rfl
   have f0 := K3.frz 0
   have f1 := K3.frz 1
   have KK := (K3.setTo 0 (.slice A3 (runsC k).many c3) rfl).setTo 1 (.slice A4 (runsC k).many c4) rfl
   have k0 := KK.at 0 (v := .slice A3 (runsC k).many c3) rfl
   have k1 := KK.at 1 (v := .slice A4 (runsC k).many c4) rfl
   have HFIN := Lib.hid (LawRet.put (w := w) o3 o4 (Nat.lt_of_lt_of_le (Nat.lt_succ_self _) (Nat.le_trans HR2.out.2.1.out.lt (Nat.le_refl _))) (Base.Below.nextA HR2.out.2.2.out b3))
   clear KK K3 o3 o4 b3 HCt hpw
   generalize (runsC k).many = mm at *
   go_wp2
   refine bodyPost_ret (v := .agg #[.slice A3 mm c3, .slice A4 mm c4]) (by simp [results, Tryz.results28, go_sem, k0, k1]) rfl ?_
   exact HFIN.out
set_option maxHeartbeats 4000000 in
set_option maxRecDepth 100000 in
theorem longest_any (n : Nat) (hn1 : 1 ≤ n) (hn50 : n ≤ 50) (w : World) : Calls Tryz.prog 30 #[.int .i64 (n : Int)] w (LawRet (lenC n) n w) := by
 obtain ⟨i0, hi, hz0, hz1, hz2⟩ := info_parts infoI
 have H0 := Lib.hid (LnRel.lit (C := lenC n) (w := w) (x := 0) rfl)
 have HCZ : Hid (∀ k, cz (lenC n) (k + 1) = 2 * W (k + 1) n - 2 * W k n) := Lib.hid (fun k => by unfold cz lenC cL; simp)
 have HW0 : Hid (2 * W 0 n = 0) := Lib.hid (by obtain ⟨m, rfl⟩ : ∃ m, n = m + 1 := ⟨n - 1, by omega⟩; rw [W_none])
 go_enter Tryz.func30, Tryz.ntmps30
 go_wp2
 go_loopw [3, 4, 5] (fun ov bv kv wr => ∃ k : Nat, k ≤ n ∧ kv = .int .i64 ((k : Int) + 1) ∧ bv = .int .i64 ((2 * W k n : Nat) : Int) ∧ LnRel (lenC n) w ov (k + 1) wr) (fun _ _ kv _ => n + 1 - (intOf kv).toNat)
 case atStart => exact ⟨0, Nat.zero_le _, rfl, by rw [HW0.out]; rfl, H0.out⟩
 case round =>
  obtain ⟨k, hk, rfl, rfl, HR⟩ := hrel
  obtain ⟨wo, rfl⟩ : ∃ x, x = wr := ⟨_, rfl⟩
  by_cases hlt : k < n
  ·have hup := LvU.upTo_any n (k + 1) wo hn1 hn50 (by omega) (by omega)
   rw [show ((k + 1 : Nat) : Int) = (k : Int) + 1 by simp] at hup
   have HUp := Lib.hid hup
   have h1 := W_mono k n
   have h2 := W_bound (k + 1) n
   have hp : (2 : Nat) ^ n ≤ 2 ^ 50 := Nat.pow_le_pow_right (by decide) hn50
   have HRR := Lib.hid HR
   have hw := HR.2.1.out.lt
   have hcz := HCZ.out k
   clear H0 HR hup
   obtain ⟨x, hx⟩ : ∃ x, x = 2 * W (k + 1) n := ⟨_, rfl⟩
   obtain ⟨y, hy⟩ : ∃ y, y = 2 * W k n := ⟨_, rfl⟩
   rw [← hx] at HUp hcz
   rw [← hy] at hcz
   have hyx : y ≤ x := by omega
   have hx51 : x ≤ 2251799813685248 := by omega
   have h2x : ((cz (lenC n) (k + 1) : Nat) : Int) = (x : Int) - (y : Int) := by rw [hcz]; omega
   have H2X := Lib.hid h2x
   have HXE := Lib.hid hx
   rw [← hy]
   clear hcz h2x h1 h2 hp hx hy
   go_wp2_with fail
   refine HUp.out.mono ?_
   rintro e w2 ⟨rfl, hb2⟩
   have HW := Lib.hid (HRR.out.row hb2 ((x : Int) - (y : Int)))
   have HB2 := Lib.hid hb2
   have hs2 := hb2.size
   clear hb2
   go_wp2_with (at_builtin; refine wpList_append_own_at _ rfl (.tmp 16) (.tmp 20) 63 rfl (w.heap.size + 1) 2 i0 (.int .i64 0) 1 8 Tryz.underlying63 hi hz0 hz1 hz2 rfl (by decide) _ _ _ rfl HW.out ⟨w2.heap.size, 0, none⟩ 1 1 [.int .i64 ((x : Int) - (y : Int))] rfl rfl ?p1a ?p2a ?p3a ?p4a ?p5a ?_)
   try case p1a => exact news_one _ _ _ (by simp)
   try case p2a => first | exact one_int | rfl | simp
   try case p3a => first | (simp only [maxLen]; omega) | omega
   try case p4a => omega
   try case p5a => first | (simp only [World.size_alloc]; omega) | omega
   intro v' w3 hown' hg' _ he
   rw [← H2X.out] at hown'
   have HN := Lib.hid (HRR.out.next (HB2.out.alloc HB2.out.size _) hown' hg')
   clear hown' hg' he
   go_wp2
   go_roundw
   case rel => exact ⟨k + 1, by omega, by simp, by rw [HXE.out], HN.out⟩
   case measure => simp [intOf]; omega
  ·obtain rfl : k = n := by omega
   obtain ⟨A1, c1, e5, _⟩ := HR.1.out.form
   rw [fl_len] at e5
   subst e5
   have HCt := Lib.hid (counted_k (C := lenC k) (K := (k + 1)) (c := c1) (by show k + 1 = 1 + k; omega) (lenC_ok hn1) hn50 rfl wo (OwnI.rd HR.1.out) (Nat.le_refl _))
   have hpw := pw_int hn50 rfl
   have HR2 := Lib.hid HR
   clear HR
   go_wp2_with fail
   rw [hpw]
   refine HCt.out.mono ?_
   rintro e w3 ⟨v, rfl, ⟨A3, c3, A4, c4, rfl, o3, o4⟩, b3⟩
   have K3 := HR2.out.2.1.out.belowS b3
   have r0 := K3.at 0 (v := .slice none 0 0) rfl
   have r1 := K3.at 1 (v := .slice none 0 0) rfl
   have f0 := K3.frz 0
   have f1 := K3.frz 1
   have KK := (K3.setTo 0 (.slice A3 (lenC k).many c3) rfl).setTo 1 (.slice A4 (lenC k).many c4) rfl
   have k0 := KK.at 0 (v := .slice A3 (lenC k).many c3) rfl
   have k1 := KK.at 1 (v := .slice A4 (lenC k).many c4) rfl
   have HFIN := Lib.hid (LawRet.put (w := w) o3 o4 (Nat.lt_of_lt_of_le (Nat.lt_succ_self _) (Nat.le_trans HR2.out.2.1.out.lt (Nat.le_refl _))) (Base.Below.nextA HR2.out.2.2.out b3))
   clear KK K3 o3 o4 b3 HCt hpw
   generalize (lenC k).many = mm at *
   go_wp2
   refine bodyPost_ret (v := .agg #[.slice A3 mm c3, .slice A4 mm c4]) (by simp [results, Tryz.results30, go_sem, k0, k1]) rfl ?_
   exact HFIN.out
end Go.Proofs.YtcimmgpmkfbpdaaGreatDoor.LvL

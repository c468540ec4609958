/- The reference's numbers of two words: comparison, sums, differences, what is small. -/
import Derived.Test.YthagenodiofgnaaGreatMgMix05
import Derived.Test.YthagenodiofgnaaGreatMgMix03
import Derived.Deep.Cut
namespace Go.Proofs.YthagenodiofgnaaGreat.Two
open Go.RowKit Go.Proofs.YthagenodiofgnaaGreat Go.Proofs.YthagenodiofgnaaGreat.Base Go.Proofs.YthagenodiofgnaaGreat.Mem Go.Proofs.YthagenodiofgnaaGreat.TwoM Go.Proofs.YthagenodiofgnaaGreat.Blk
set_option linter.unusedVariables false
set_option maxHeartbeats 2000000 in
set_option maxRecDepth 100000 in
theorem less_any (t s : Nat) (w : World) : Calls Tryz.prog 134 #[two t, two s] w fun e w' => e = .returned (.bool (decide (t < s))) ∧ Below w.heap.size w w' := by
 unfold two
 have HE : Hid (t < s ↔ (t / 18446744073709551616 < s / 18446744073709551616 ∨ (t / 18446744073709551616 = s / 18446744073709551616 ∧ t % 18446744073709551616 < s % 18446744073709551616))) := Lib.hid (by omega)
 generalize t / 18446744073709551616 = th at *
 generalize t % 18446744073709551616 = tl at *
 generalize s / 18446744073709551616 = sh at *
 generalize s % 18446744073709551616 = sl at *
 have HB : Hid (Below w.heap.size w ((w.alloc (.cells #[.int .u64 (th : Int), .int .u64 (tl : Int)] 164)).alloc (.cells #[.int .u64 (sh : Int), .int .u64 (sl : Int)] 164))) := Lib.hid (((Below.refl _ _).alloc (Nat.le_refl _) _).alloc (by simp) _)
 rcases Nat.lt_trichotomy th sh with h | h | h
 ·have h1 : decide (th < sh) = true := decide_eq_true h
  have hr : decide (t < s) = true := decide_eq_true (HE.out.2 (.inl h))
  rw [hr]
  clear hr h
  go_enter Tryz.func134, Tryz.ntmps134
  go_wp2
  go_ret
  exact ⟨rfl, HB.out⟩
 ·subst h
  have h1 : decide (th < th) = false := decide_eq_false (by omega)
  have h2 : ((th : Int) == (th : Int)) = true := by simp
  have hr : decide (t < s) = decide (tl < sl) := by
   rw [Bool.eq_iff_iff, decide_eq_true_eq, decide_eq_true_eq, HE.out]; omega
  rw [hr]
  clear hr
  by_cases hl : tl < sl
  ·have h3 : decide (tl < sl) = true := decide_eq_true hl
   clear hl
   go_enter Tryz.func134, Tryz.ntmps134
   go_wp2
   go_ret
   exact ⟨ret_bool (by first | rfl | simp [h3]), HB.out⟩
  ·have h3 : decide (tl < sl) = false := decide_eq_false hl
   clear hl
   go_enter Tryz.func134, Tryz.ntmps134
   go_wp2
   go_ret
   exact ⟨ret_bool (by first | rfl | simp [h3]), HB.out⟩
 ·have h1 : decide (th < sh) = false := decide_eq_false (by omega)
  have h2 : ((th : Int) == (sh : Int)) = false := by simp only [beq_eq_false_iff_ne]; omega
  have hr : decide (t < s) = false := decide_eq_false (by rw [HE.out]; omega)
  rw [hr]
  clear hr h
  go_enter Tryz.func134, Tryz.ntmps134
  go_wp2
  go_ret
  exact ⟨rfl, HB.out⟩
set_option maxHeartbeats 2000000 in
set_option maxRecDepth 100000 in
theorem small_any (t : Nat) (w : World) : Calls Tryz.prog 137 #[two t] w fun e w' => e = .returned (.tuple #[.int .i64 ((if t ≤ 1000000000000000000 then t else 0 : Nat) : Int), .bool (decide (t ≤ 1000000000000000000))]) ∧ Below w.heap.size w w' := by
 unfold two
 have HE : Hid (t ≤ 1000000000000000000 ↔ (t / 18446744073709551616 = 0 ∧ t % 18446744073709551616 ≤ 1000000000000000000)) := Lib.hid (by omega)
 have HE2 : Hid (t ≤ 1000000000000000000 → t % 18446744073709551616 = t) := Lib.hid (by omega)
 generalize t / 18446744073709551616 = th at *
 generalize t % 18446744073709551616 = tl at *
 have HB : Hid (Below w.heap.size w (w.alloc (.cells #[.int .u64 (th : Int), .int .u64 (tl : Int)] 164))) := Lib.hid ((Below.refl _ _).alloc (Nat.le_refl _) _)
 by_cases h0 : th = 0
 ·subst h0
  by_cases hl : tl ≤ 1000000000000000000
  ·have hr := HE.out.2 ⟨rfl, hl⟩
   have hd : decide (t ≤ 1000000000000000000) = true := decide_eq_true hr
   rw [if_pos hr, hd]
   obtain rfl := HE2.out hr
   have h2 : ¬ 1000000000000000000 < tl := by omega
   clear hr hd
   go_enter Tryz.func137, Tryz.ntmps137
   go_wp2
   go_ret2
   exact ⟨rfl, HB.out⟩
  ·have hr : ¬ t ≤ 1000000000000000000 := by rw [HE.out]; omega
   have hd : decide (t ≤ 1000000000000000000) = false := decide_eq_false hr
   rw [if_neg hr, hd]
   have h2 : 1000000000000000000 < tl := by omega
   clear hr hd hl
   go_enter Tryz.func137, Tryz.ntmps137
   go_wp2
   go_ret2
   exact ⟨rfl, HB.out⟩
 ·have hr : ¬ t ≤ 1000000000000000000 := by rw [HE.out]; omega
  have hd : decide (t ≤ 1000000000000000000) = false := decide_eq_false hr
  rw [if_neg hr, hd]
  have h2 : 0 < th := by omega
  clear hr hd h0
  go_enter Tryz.func137, Tryz.ntmps137
  go_wp2
  go_ret2
  exact ⟨rfl, HB.out⟩
set_option maxHeartbeats 2000000 in
set_option maxRecDepth 100000 in
theorem plus_any (t s : Nat) (ht : t < 85070591730234615865843651857942052864) (hs : s < 85070591730234615865843651857942052864) (w : World) : Calls Tryz.prog 133 #[two t, two s] w fun e w' => e = .returned (two (t + s)) ∧ Below w.heap.size w w' := by
 unfold two
 have E1 : Hid ((t + s) / 18446744073709551616 = t / 18446744073709551616 + s / 18446744073709551616 + (t % 18446744073709551616 + s % 18446744073709551616) / 18446744073709551616) := Lib.hid (by omega)
 have E2 : Hid ((t + s) % 18446744073709551616 = (t % 18446744073709551616 + s % 18446744073709551616) % 18446744073709551616) := Lib.hid (by omega)
 rw [E1.out, E2.out]
 have b1 : t / 18446744073709551616 ≤ 4611686018427387904 := by omega
 have b2 : s / 18446744073709551616 ≤ 4611686018427387904 := by omega
 have b3 : t % 18446744073709551616 < 18446744073709551616 := Nat.mod_lt _ (by decide)
 have b4 : s % 18446744073709551616 < 18446744073709551616 := Nat.mod_lt _ (by decide)
 clear E1 E2 ht hs
 generalize t / 18446744073709551616 = th at *
 generalize t % 18446744073709551616 = tl at *
 generalize s / 18446744073709551616 = sh at *
 generalize s % 18446744073709551616 = sl at *
 obtain ⟨l, hl⟩ : ∃ l, l = (tl + sl) % 18446744073709551616 := ⟨_, rfl⟩
 rw [← hl]
 have hw : IntKind.u64.wrap ((tl : Int) + (sl : Int)) = (l : Int) := by rw [IntKind.wrap_u64]; omega
 have hB : ∀ c d, Below w.heap.size w ((((w.alloc (.cells #[.int .u64 (th : Int), .int .u64 (tl : Int)] 164)).alloc (.cells #[.int .u64 (sh : Int), .int .u64 (sl : Int)] 164)).alloc (.cells d 164)).alloc (.cells c 164)) := fun c d => ((((Below.refl _ _).alloc (Nat.le_refl _) _).alloc (by simp) _).alloc (by simp; omega) _).alloc (by simp; omega) _
 have HB := Lib.hid hB
 clear hB
 by_cases hc : 18446744073709551616 ≤ tl + sl
 ·have hlt : decide (l < tl) = true := decide_eq_true (by omega)
  have hd : (tl + sl) / 18446744073709551616 = 1 := by omega
  rw [hd]
  have HL := Lib.hid hl
  clear hl hd hc
  go_enter Tryz.func133, Tryz.ntmps133
  go_wp2
  exact bodyPost_ret (v := .agg #[.int .u64 ((th : Int) + (sh : Int) + 1), .int .u64 (l : Int)]) (by simp [results, Tryz.results133, go_sem]) rfl ⟨by simp, HB.out _ _⟩
 ·have hlt : decide (l < tl) = false := decide_eq_false (by omega)
  have hd : (tl + sl) / 18446744073709551616 = 0 := by omega
  rw [hd]
  have HL := Lib.hid hl
  clear hl hd hc
  go_enter Tryz.func133, Tryz.ntmps133
  go_wp2
  exact bodyPost_ret (v := .agg #[.int .u64 ((th : Int) + (sh : Int)), .int .u64 (l : Int)]) (by simp [results, Tryz.results133, go_sem]) rfl ⟨by simp, HB.out _ _⟩
set_option maxHeartbeats 2000000 in
set_option maxRecDepth 100000 in
theorem minus_any (t s : Nat) (ht : t < 85070591730234615865843651857942052864) (hs : s ≤ t) (w : World) : Calls Tryz.prog 135 #[two t, two s] w fun e w' => e = .returned (two (t - s)) ∧ Below w.heap.size w w' := by
 unfold two
 have b1 : t / 18446744073709551616 ≤ 4611686018427387904 := by omega
 have b2 : s / 18446744073709551616 ≤ t / 18446744073709551616 := by omega
 have b3 : t % 18446744073709551616 < 18446744073709551616 := Nat.mod_lt _ (by decide)
 have b4 : s % 18446744073709551616 < 18446744073709551616 := Nat.mod_lt _ (by decide)
 have E1 : Hid (t % 18446744073709551616 < s % 18446744073709551616 → (t - s) / 18446744073709551616 + s / 18446744073709551616 + 1 = t / 18446744073709551616 ∧ (t - s) % 18446744073709551616 = t % 18446744073709551616 + 18446744073709551616 - s % 18446744073709551616) := Lib.hid (by omega)
 have E2 : Hid (¬ t % 18446744073709551616 < s % 18446744073709551616 → (t - s) / 18446744073709551616 + s / 18446744073709551616 = t / 18446744073709551616 ∧ (t - s) % 18446744073709551616 = t % 18446744073709551616 - s % 18446744073709551616) := Lib.hid (by omega)
 clear ht hs
 generalize t / 18446744073709551616 = th at *
 generalize t % 18446744073709551616 = tl at *
 generalize s / 18446744073709551616 = sh at *
 generalize s % 18446744073709551616 = sl at *
 generalize (t - s) / 18446744073709551616 = rh at *
 generalize (t - s) % 18446744073709551616 = rl at *
 have hB : ∀ c d, Below w.heap.size w ((((w.alloc (.cells #[.int .u64 (th : Int), .int .u64 (tl : Int)] 164)).alloc (.cells #[.int .u64 (sh : Int), .int .u64 (sl : Int)] 164)).alloc (.cells d 164)).alloc (.cells c 164)) := fun c d => ((((Below.refl _ _).alloc (Nat.le_refl _) _).alloc (by simp) _).alloc (by simp; omega) _).alloc (by simp; omega) _
 have HB := Lib.hid hB
 clear hB
 by_cases hc : tl < sl
 ·obtain ⟨e1, e2⟩ := E1.out hc
  have hw : IntKind.u64.wrap ((tl : Int) - (sl : Int)) = (rl : Int) := by rw [IntKind.wrap_u64]; omega
  have hw2 : (th : Int) - (sh : Int) = (rh : Int) + 1 := by omega
  have b5 : rh ≤ 4611686018427387904 := by omega
  have hlt : decide (tl < sl) = true := decide_eq_true hc
  clear hc e1 e2 E1 E2
  go_enter Tryz.func135, Tryz.ntmps135
  go_wp2
  exact bodyPost_ret (v := .agg #[.int .u64 (rh : Int), .int .u64 (rl : Int)]) (by simp [results, Tryz.results135, go_sem]) rfl ⟨by simp, HB.out _ _⟩
 ·obtain ⟨e1, e2⟩ := E2.out hc
  have hw : IntKind.u64.wrap ((tl : Int) - (sl : Int)) = (rl : Int) := by rw [IntKind.wrap_u64]; omega
  have hw1 : (tl : Int) - (sl : Int) = (rl : Int) := by omega
  have hw2 : (th : Int) - (sh : Int) = (rh : Int) := by omega
  have b5 : rh ≤ 4611686018427387904 := by omega
  have hlt : decide (tl < sl) = false := decide_eq_false hc
  clear hc e1 e2 E1 E2
  go_enter Tryz.func135, Tryz.ntmps135
  go_wp2
  exact bodyPost_ret (v := .agg #[.int .u64 (rh : Int), .int .u64 (rl : Int)]) (by simp [results, Tryz.results135, go_sem]) rfl ⟨by simp, HB.out _ _⟩
end Go.Proofs.YthagenodiofgnaaGreat.Two
namespace Go.Proofs.YthagenodiofgnaaGreat.Two
open Go.RowKit Go.Proofs.YthagenodiofgnaaGreat Go.Proofs.YthagenodiofgnaaGreat.Base Go.Proofs.YthagenodiofgnaaGreat.Mem Go.Proofs.YthagenodiofgnaaGreat.TwoM Go.Proofs.YthagenodiofgnaaGreat.Blk
set_option linter.unusedVariables false
def SpRel (t d : Nat) (w : World) (iv rv : Value) (wr : World) : Prop :=
 ∃ n q r : Nat, iv = .int .i64 ((n : Int) - 1) ∧ rv = .int .u64 (r : Int) ∧ n ≤ 128 ∧ r < d ∧ Hid (q = t / 2 ^ n / d) ∧ Hid (r = t / 2 ^ n % d) ∧
  Hid (Blk wr w.heap.size 164 #[.int .u64 ((t / 18446744073709551616 : Nat) : Int), .int .u64 ((t % 18446744073709551616 : Nat) : Int)]) ∧
  Hid (Blk wr (w.heap.size + 1) 164 #[.int .u64 0, .int .u64 0]) ∧
  Hid (Blk wr (w.heap.size + 1 + 1) 164 #[.int .u64 ((q / 18446744073709551616 : Nat) : Int), .int .u64 ((q % 18446744073709551616 : Nat) : Int)]) ∧ Hid (Below w.heap.size w wr)
theorem u64_and1 (x : Nat) (h : x < 18446744073709551616) : bits .and .u64 (x : Int) 1 = ((x % 2 : Nat) : Int) := by
 have := u64_and_nat x 1 h (by decide)
 rw [show ((1 : Nat) : Int) = 1 from rfl] at this
 rw [this, Nat.and_one_is_mod]
theorem SpRel.yes {t d m q r r2 qh ql nh nl : Nat} {w wr : World} (hm : m + 1 ≤ 128) (hqh : q / 18446744073709551616 = qh) (hql : q % 18446744073709551616 = ql) (hnh : nh = 2 * qh + ql / 9223372036854775808) (hnl : nl = 2 * ql % 18446744073709551616)
  (h1 : t / 2 ^ m / d = 2 * q + 1) (h2 : t / 2 ^ m % d = r2) (hd : 0 < d)
  (K0 : Blk wr w.heap.size 164 #[.int .u64 ((t / 18446744073709551616 : Nat) : Int), .int .u64 ((t % 18446744073709551616 : Nat) : Int)])
  (K1 : Blk wr (w.heap.size + 1) 164 #[.int .u64 0, .int .u64 0])
  (K2 : Blk wr (w.heap.size + 1 + 1) 164 #[.int .u64 (qh : Int), .int .u64 (ql : Int)]) (hb : Below w.heap.size w wr) :
  SpRel t d w (.int .i64 ((m : Int) - 1)) (.int .u64 (r2 : Int)) (((wr.setCell ⟨w.heap.size + 1 + 1, 0, none⟩ (.int .u64 (nh : Int))).setCell ⟨w.heap.size + 1 + 1, 1, none⟩ (.int .u64 (nl : Int))).setCell ⟨w.heap.size + 1 + 1, 1, none⟩ (.int .u64 ((nl + 1 : Nat) : Int))) := by
 refine ⟨m, 2 * q + 1, r2, rfl, rfl, by omega, by rw [← h2]; exact Nat.mod_lt _ hd, Lib.hid h1.symm, Lib.hid h2.symm, Lib.hid ?_, Lib.hid ?_, Lib.hid ?_, Lib.hid ?_⟩
 ·exact ((K0.other _ (by simp; omega)).other _ (by simp; omega)).other _ (by simp; omega)
 ·exact ((K1.other _ (by simp)).other _ (by simp)).other _ (by simp)
 ·rw [show (2 * q + 1) / 18446744073709551616 = nh by omega, show (2 * q + 1) % 18446744073709551616 = nl + 1 by omega]
  exact ((K2.setTo 0 _ rfl).setTo 1 _ rfl).setTo 1 _ rfl
 ·exact ((hb.setCell (by simp; omega) _).setCell (by simp; omega) _).setCell (by simp; omega) _
theorem SpRel.no {t d m q r r2 qh ql nh nl : Nat} {w wr : World} (hm : m + 1 ≤ 128) (hqh : q / 18446744073709551616 = qh) (hql : q % 18446744073709551616 = ql) (hnh : nh = 2 * qh + ql / 9223372036854775808) (hnl : nl = 2 * ql % 18446744073709551616)
  (h1 : t / 2 ^ m / d = 2 * q) (h2 : t / 2 ^ m % d = r2) (hd : 0 < d)
  (K0 : Blk wr w.heap.size 164 #[.int .u64 ((t / 18446744073709551616 : Nat) : Int), .int .u64 ((t % 18446744073709551616 : Nat) : Int)])
  (K1 : Blk wr (w.heap.size + 1) 164 #[.int .u64 0, .int .u64 0])
  (K2 : Blk wr (w.heap.size + 1 + 1) 164 #[.int .u64 (qh : Int), .int .u64 (ql : Int)]) (hb : Below w.heap.size w wr) :
  SpRel t d w (.int .i64 ((m : Int) - 1)) (.int .u64 (r2 : Int)) ((wr.setCell ⟨w.heap.size + 1 + 1, 0, none⟩ (.int .u64 (nh : Int))).setCell ⟨w.heap.size + 1 + 1, 1, none⟩ (.int .u64 (nl : Int))) := by
 refine ⟨m, 2 * q, r2, rfl, rfl, by omega, by rw [← h2]; exact Nat.mod_lt _ hd, Lib.hid h1.symm, Lib.hid h2.symm, Lib.hid ?_, Lib.hid ?_, Lib.hid ?_, Lib.hid ?_⟩
 ·exact (K0.other _ (by simp; omega)).other _ (by simp; omega)
 ·exact (K1.other _ (by simp)).other _ (by simp)
 ·rw [show (2 * q) / 18446744073709551616 = nh by omega, show (2 * q) % 18446744073709551616 = nl by omega]
  exact (K2.setTo 0 _ rfl).setTo 1 _ rfl
 ·exact (hb.setCell (by simp; omega) _).setCell (by simp; omega) _
set_option maxHeartbeats 2000000 in
set_option maxRecDepth 100000 in
theorem split_any (t d : Nat) (ht : t < 85070591730234615865843651857942052864) (hd : 0 < d) (hd2 : d ≤ 1000000000000000000) (w : World) : Calls Tryz.prog 136 #[two t, .int .i64 (d : Int)] w fun e w' => e = .returned (.tuple #[two (t / d), .int .i64 ((t % d : Nat) : Int)]) ∧ Below w.heap.size w w' := by
 have H0 : Hid (SpRel t d w (.int .i64 127) (.int .u64 0) (((w.alloc (.cells #[.int .u64 ((t / 18446744073709551616 : Nat) : Int), .int .u64 ((t % 18446744073709551616 : Nat) : Int)] 164)).alloc (.cells #[.int .u64 0, .int .u64 0] 164)).alloc (.cells #[.int .u64 0, .int .u64 0] 164))) := Lib.hid (by
  have hz : t / 2 ^ 128 = 0 := Nat.div_eq_of_lt (by omega)
  refine ⟨128, 0, 0, rfl, rfl, by omega, hd, Lib.hid (by rw [hz, Nat.zero_div]), Lib.hid (by rw [hz, Nat.zero_mod]), Lib.hid ?_, Lib.hid ?_, Lib.hid ?_, Lib.hid ?_⟩
  ·exact ((Blk.new w _ _).alloc _).alloc _
  ·exact (Blk.newAt _ _ (by simp)).alloc _
  ·exact Blk.newAt _ _ (by simp)
  ·exact (((Below.refl _ _).alloc (Nat.le_refl _) _).alloc (by simp) _).alloc (by simp; omega) _)
 have HT := Lib.hid ht
 have HD := Lib.hid hd
 have HS := Lib.hid (fun (m q r : Nat) (h1 : q = t / 2 ^ (m + 1) / d) (h2 : r = t / 2 ^ (m + 1) % d) => split_bit (t := t) (i := m) hd h1 h2)
 have HBH := Lib.hid (fun m => bit_high t m)
 have HBL := Lib.hid (fun m => bit_low t m)
 unfold two
 clear ht
 go_enter Tryz.func136, Tryz.ntmps136
 go_wp2
 go_loopw [8, 7] (fun iv rv wr => SpRel t d w iv rv wr) (fun iv _ _ => (intOf iv + 1).toNat)
 case atStart => exact H0.out
 case round =>
  obtain ⟨n, q, r, rfl, rfl, hn, hr, hq, hre, K0, K1, K2, HB⟩ := hrel
  clear H0
  by_cases hpos : 0 < n
  ·obtain ⟨m, rfl⟩ : ∃ m, n = m + 1 := ⟨n - 1, by omega⟩
   have e1 : (((m + 1 : Nat) : Int) - 1) = (m : Int) := by omega
   rw [e1]
   clear e1
   have a0 := K0.out.at 0 rfl
   have a1 := K0.out.at 1 rfl
   have q0 := K2.out.at 0 rfl
   have q1 := K2.out.at 1 rfl
   have z0 := K2.out.frz 0
   have z1 := K2.out.frz 1
   have hqb : Hid (q < 85070591730234615865843651857942052864) := Lib.hid (Nat.lt_of_le_of_lt (by rw [hq.out]; exact Nat.le_trans (Nat.div_le_self _ _) (Nat.div_le_self _ _)) HT.out)
   have hthb : t / 18446744073709551616 < 4611686018427387905 := by have := HT.out; omega
   have htlb : t % 18446744073709551616 < 18446744073709551616 := Nat.mod_lt _ (by decide)
   have hqhb : q / 18446744073709551616 < 4611686018427387905 := by have := hqb.out; omega
   have hqlb : q % 18446744073709551616 < 18446744073709551616 := Nat.mod_lt _ (by decide)
   have hX := HBH.out m
   have hY := HBL.out m
   have HST := Lib.hid (HS.out m q r hq.out hre.out)
   have HK := Lib.hid (And.intro K0.out (And.intro K1.out (And.intro K2.out HB.out)))
   obtain ⟨b, hb⟩ : ∃ b, b = t / 2 ^ m % 2 := ⟨_, rfl⟩
   rw [← hb] at hX hY HST
   have hb1 : b ≤ 1 := by omega
   have HX := Lib.hid hX
   have HY := Lib.hid hY
   clear hX hY hb hq hre K0 K1 K2 HB
   generalize hth : t / 18446744073709551616 = th at *
   generalize htl : t % 18446744073709551616 = tl at *
   rw [← hth, ← htl] at HK
   clear hth htl
   generalize hqh : q / 18446744073709551616 = qh at *
   generalize hql : q % 18446744073709551616 = ql at *
   have HQ := Lib.hid (And.intro hqh hql)
   clear hqh hql
   obtain ⟨nh, hnh⟩ : ∃ nh, nh = 2 * qh + ql / 9223372036854775808 := ⟨_, rfl⟩
   obtain ⟨nl, hnl⟩ : ∃ nl, nl = 2 * ql % 18446744073709551616 := ⟨_, rfl⟩
   have hor1 : bits .or .u64 ((qh : Int) * 2) ((ql : Int) / 9223372036854775808) = (nh : Int) := by
    have := or_parts (a := qh) (b := ql / 9223372036854775808) (k := 1) (by omega) (by omega)
    rw [show ((qh * 2 ^ 1 : Nat) : Int) = (qh : Int) * 2 by omega, show ((ql / 9223372036854775808 : Nat) : Int) = (ql : Int) / 9223372036854775808 by omega] at this
    rw [this, hnh]; omega
   have hwl : IntKind.u64.wrap ((ql : Int) * 2) = (nl : Int) := by rw [IntKind.wrap_u64]; omega
   have hor2 : bits .or .u64 (nl : Int) 1 = ((nl + 1 : Nat) : Int) := by
    have := or_parts (a := nl / 2) (b := 1) (k := 1) (by omega) (by omega)
    rw [show nl / 2 * 2 ^ 1 = nl by omega] at this
    exact this
   have hnlb : nl < 18446744073709551616 := by omega
   have HNH := Lib.hid (And.intro hnh hnl)
   clear hnh hnl
   by_cases h64 : 64 ≤ m
   ·have hand : bits .and .u64 ((th : Int) / 2 ^ (m - 64)) 1 = (b : Int) := by
     have := u64_and1 (th / 2 ^ (m - 64)) (Nat.lt_of_le_of_lt (Nat.div_le_self _ _) (by omega))
     rw [← HX.out h64] at this
     rw [← this]
     simp
    obtain ⟨S, hS⟩ : ∃ S, S = 2 * r + b := ⟨_, rfl⟩
    rw [← hS] at HST
    have hs1 : 2 * (r : Int) + (b : Int) = (S : Int) := by omega
    have hs2 : IntKind.u64.wrap (S : Int) = (S : Int) := by rw [IntKind.wrap_u64]; omega
    by_cases hc : d ≤ S
    ·obtain ⟨g1, g2⟩ := HST.out.1 hc
     obtain ⟨r2, hr2⟩ : ∃ r2, r2 = S - d := ⟨_, rfl⟩
     have hs3 : (S : Int) - (d : Int) = (r2 : Int) := by omega
     have HN := Lib.hid (SpRel.yes (r2 := r2) (r := r) hn HQ.out.1 HQ.out.2 HNH.out.1 HNH.out.2 g1 (by rw [g2, hr2]) HD.out HK.out.1 HK.out.2.1 HK.out.2.2.1 HK.out.2.2.2)
     have hge : decide (d ≤ S) = true := decide_eq_true hc
     clear g1 g2 hr2 HST hS
     go_wp2
     go_roundw
     case rel => exact HN.out
     case measure => simp [intOf]
    ·obtain ⟨g1, g2⟩ := HST.out.2 (by omega)
     have HN := Lib.hid (SpRel.no (r2 := S) (r := r) hn HQ.out.1 HQ.out.2 HNH.out.1 HNH.out.2 g1 g2 HD.out HK.out.1 HK.out.2.1 HK.out.2.2.1 HK.out.2.2.2)
     have hge : decide (d ≤ S) = false := decide_eq_false hc
     have hlt : (S : Int) < (d : Int) := by omega
     clear g1 g2 HST hS hc
     go_wp2
     go_roundw
     case rel => exact HN.out
     case measure => simp [intOf]
   ·have hand : bits .and .u64 ((tl : Int) / 2 ^ m) 1 = (b : Int) := by
     have := u64_and1 (tl / 2 ^ m) (Nat.lt_of_le_of_lt (Nat.div_le_self _ _) htlb)
     rw [← HY.out (by omega)] at this
     rw [← this]
     simp
    have hm64 : m % 64 = m := by omega
    obtain ⟨S, hS⟩ : ∃ S, S = 2 * r + b := ⟨_, rfl⟩
    rw [← hS] at HST
    have hs1 : 2 * (r : Int) + (b : Int) = (S : Int) := by omega
    have hs2 : IntKind.u64.wrap (S : Int) = (S : Int) := by rw [IntKind.wrap_u64]; omega
    by_cases hc : d ≤ S
    ·obtain ⟨g1, g2⟩ := HST.out.1 hc
     obtain ⟨r2, hr2⟩ : ∃ r2, r2 = S - d := ⟨_, rfl⟩
     have hs3 : (S : Int) - (d : Int) = (r2 : Int) := by omega
     have HN := Lib.hid (SpRel.yes (r2 := r2) (r := r) hn HQ.out.1 HQ.out.2 HNH.out.1 HNH.out.2 g1 (by rw [g2, hr2]) HD.out HK.out.1 HK.out.2.1 HK.out.2.2.1 HK.out.2.2.2)
     have hge : decide (d ≤ S) = true := decide_eq_true hc
     clear g1 g2 hr2 HST hS
     go_wp2
     go_roundw
     case rel => exact HN.out
     case measure => simp [intOf]
    ·obtain ⟨g1, g2⟩ := HST.out.2 (by omega)
     have HN := Lib.hid (SpRel.no (r2 := S) (r := r) hn HQ.out.1 HQ.out.2 HNH.out.1 HNH.out.2 g1 g2 HD.out HK.out.1 HK.out.2.1 HK.out.2.2.1 HK.out.2.2.2)
     have hge : decide (d ≤ S) = false := decide_eq_false hc
     have hlt : (S : Int) < (d : Int) := by omega
     clear g1 g2 HST hS hc
     go_wp2
     go_roundw
     case rel => exact HN.out
     case measure => simp [intOf]
  ·obtain rfl : n = 0 := by omega
   have hq0 : q = t / d := by have := hq.out; rwa [Nat.pow_zero, Nat.div_one] at this
   have hr0 : r = t % d := by have := hre.out; rwa [Nat.pow_zero, Nat.div_one] at this
   have q0 := K2.out.at 0 rfl
   have q1 := K2.out.at 1 rfl
   have p0 := K1.out.at 0 rfl
   have p1 := K1.out.at 1 rfl
   have z0 := K1.out.frz 0
   have z1 := K1.out.frz 1
   have HE := Lib.hid (And.intro hq0 hr0)
   have S := (K1.out.setTo 0 (.int .u64 ((q / 18446744073709551616 : Nat) : Int)) rfl).setTo 1 (.int .u64 ((q % 18446744073709551616 : Nat) : Int)) rfl
   have s0 := S.at 0 rfl
   have s1 := S.at 1 rfl
   have HB2 := Lib.hid HB.out
   clear hq0 hr0 hq hre K0 K1 K2 S HB
   generalize hqh : q / 18446744073709551616 = qh at *
   generalize hql : q % 18446744073709551616 = ql at *
   have HQ := Lib.hid (And.intro hqh hql)
   clear hqh hql
   go_wp2
   refine bodyPost_ret (v := .tuple #[.agg #[.int .u64 (qh : Int), .int .u64 (ql : Int)], .int .i64 (r : Int)]) (by simp [results, Tryz.results136, go_sem, s0, s1]) rfl ⟨?_, (HB2.out.setCell (by simp) _).setCell (by simp) _⟩
   rw [← HE.out.1, ← HE.out.2, HQ.out.1, HQ.out.2]
end Go.Proofs.YthagenodiofgnaaGreat.Two
namespace Go.Proofs.YthagenodiofgnaaGreat.Fine
open Go.RowKit Go.Proofs.YthagenodiofgnaaGreat Go.Proofs.YthagenodiofgnaaGreat.Base Go.Proofs.YthagenodiofgnaaGreat.Mem Go.Proofs.YthagenodiofgnaaGreat.RatM Go.Proofs.YthagenodiofgnaaGreat.Two Go.Proofs.YthagenodiofgnaaGreat.Blk
set_option linter.unusedVariables false
theorem maxG (n : Int) (h1 : -1000000000000000000 ≤ n) (h2 : n ≤ 1000000000000000000) (w : World) : Calls Tryz.prog 80 #[.int .i64 n, .int .i64 (-n)] w fun e w' => e = .returned (.int .i64 ((n.natAbs : Nat) : Int)) ∧ w = w' := by
 by_cases h : -n < n
 ·have e : ((n.natAbs : Nat) : Int) = n := by omega
  rw [e]
  clear e
  go_enter Tryz.func80, Tryz.ntmps80
  go_wp2
  go_ret
  exact ⟨rfl, rfl⟩
 ·have e : ((n.natAbs : Nat) : Int) = -n := by omega
  have h' : n ≤ -n := by omega
  rw [e]
  clear e
  go_enter Tryz.func80, Tryz.ntmps80
  go_wp2
  go_ret
  exact ⟨rfl, rfl⟩
theorem gcdG (x y : Nat) (hx : x ≤ 1000000000000000000) (hy : y ≤ 1000000000000000000) (w : World) : Calls Tryz.prog 79 #[.int .i64 (x : Int), .int .i64 (y : Int)] w fun e w' => e = .returned (.int .i64 ((Nat.gcd x y : Nat) : Int)) ∧ w = w' := by
 go_enter Tryz.func79, Tryz.ntmps79
 go_wp2
 go_loop [0, 1] (fun av bv => ∃ p q : Nat, av = .int .i64 (p : Int) ∧ bv = .int .i64 (q : Int) ∧ p ≤ 1000000000000000000 ∧ q ≤ 1000000000000000000 ∧ Hid (Nat.gcd p q = Nat.gcd x y)) (fun _ bv => (intOf bv).toNat)
 case atStart => exact ⟨x, y, rfl, rfl, hx, hy, Lib.hid rfl⟩
 case round =>
  obtain ⟨p, q, rfl, rfl, hp, hq, hg⟩ := hrel
  by_cases hpos : 0 < q
  ·have hlt := Nat.mod_lt p hpos
   have hG : Hid (Nat.gcd q (p % q) = Nat.gcd x y) := Lib.hid (by rw [← hg.out, Nat.gcd_comm q, ← Nat.gcd_rec, Nat.gcd_comm])
   have e1 : (p : Int) % (q : Int) = ((p % q : Nat) : Int) := by simp
   clear hg
   generalize p % q = m at *
   go_wp2
   go_round
   case rel => exact ⟨q, m, rfl, by rw [e1], hq, by omega, hG⟩
   case measure => simp [intOf]; omega
  ·obtain rfl : q = 0 := by omega
   have hG := hg.out
   rw [Nat.gcd_zero_right] at hG
   go_wp2
   go_ret
   exact ⟨by rw [← hG]; rfl, rfl⟩
theorem exact_div {n : Int} {g : Nat} (h : g ∣ n.natAbs) (hg : 0 < g) : n.tdiv (g : Int) = n / (g : Int) ∧ (n / (g : Int)).natAbs = n.natAbs / g ∧ (n / (g : Int) < 0 ↔ n < 0) := by
 obtain ⟨k, hk⟩ := h
 rcases Int.natAbs_eq n with e | e
 ·rw [e, hk]
  have e1 : ((g * k : Nat) : Int) / (g : Int) = (k : Int) := by rw [Int.natCast_mul, Int.mul_ediv_cancel_left _ (by omega)]
  refine ⟨?_, ?_, ?_⟩
  ·rw [Int.tdiv_eq_ediv_of_nonneg (by omega)]
  ·rw [e1, Int.natAbs_natCast, Int.natAbs_natCast, Nat.mul_div_cancel_left _ hg]
  ·rw [e1]; omega
 ·rw [e, hk]
  have e1 : -((g * k : Nat) : Int) / (g : Int) = -(k : Int) := by
   rw [Int.natCast_mul, ← Int.mul_neg, Int.mul_ediv_cancel_left _ (by omega)]
  refine ⟨?_, ?_, ?_⟩
  ·rw [Int.neg_tdiv, Int.tdiv_eq_ediv_of_nonneg (by omega), Int.natCast_mul, Int.mul_ediv_cancel_left _ (by omega), e1.symm, Int.natCast_mul]
  ·rw [e1, Int.natAbs_neg, Int.natAbs_natCast, Int.natAbs_neg, Int.natAbs_natCast, Nat.mul_div_cancel_left _ hg]
  ·rw [e1]
   have : 0 < k ↔ 0 < g * k := by constructor <;> intro h <;> first | exact Nat.mul_pos hg h | exact Nat.pos_of_mul_pos_left h
   omega
def lowV (n : Int) (d : Nat) : Value := .agg #[.int .i64 (n / ((Nat.gcd n.natAbs d : Nat) : Int)), .int .i64 ((d / Nat.gcd n.natAbs d : Nat) : Int)]
set_option maxHeartbeats 1000000 in
theorem fMakeG (n : Int) (d : Nat) (h1 : -1000000000000000000 ≤ n) (h2 : n ≤ 1000000000000000000) (hd : 0 < d) (hd2 : d ≤ 1000000000000000000) (w : World) : Calls Tryz.prog 98 #[.int .i64 n, .int .i64 (d : Int)] w fun e w' => e = .returned (lowV n d) ∧ Below w.heap.size w w' := by
 have hg0 : 0 < Nat.gcd n.natAbs d := Nat.gcd_pos_of_pos_right _ hd
 have hg1 : Nat.gcd n.natAbs d ≤ d := Nat.gcd_le_right _ hd
 have hdv := Nat.gcd_dvd_left n.natAbs d
 obtain ⟨e1, _, _⟩ := exact_div hdv hg0
 have e2 : (d : Int) / ((Nat.gcd n.natAbs d : Nat) : Int) = ((d / Nat.gcd n.natAbs d : Nat) : Int) := by simp
 have b2 : d / Nat.gcd n.natAbs d ≤ d := Nat.div_le_self _ _
 have b3 : (n / ((Nat.gcd n.natAbs d : Nat) : Int)).natAbs ≤ 1000000000000000000 := by
  obtain ⟨_, q2, _⟩ := exact_div hdv hg0
  rw [q2]; exact Nat.le_trans (Nat.div_le_self _ _) (by omega)
 have HM := Lib.hid (fun W => maxG n h1 h2 W)
 have HG := Lib.hid (fun W => gcdG n.natAbs d (by omega) hd2 W)
 unfold lowV
 clear hdv
 generalize n / ((Nat.gcd n.natAbs d : Nat) : Int) = N at *
 generalize d / Nat.gcd n.natAbs d = D at *
 generalize Nat.gcd n.natAbs d = G at *
 go_enter Tryz.func98, Tryz.ntmps98
 go_wp2_with fail
 refine (HM.out _).mono ?_
 rintro e w1 ⟨rfl, rfl⟩
 go_wp2_with fail
 refine (HG.out _).mono ?_
 rintro e w1 ⟨rfl, rfl⟩
 go_wp2
 go_region
 go_wp2
 refine bodyPost_ret (v := .agg #[.int .i64 N, .int .i64 (D : Int)]) (by simp [results, Tryz.results98, go_sem]) rfl ⟨rfl, ?_⟩
 exact ((Below.refl _ _).alloc (Nat.le_refl _) _).drew
end Go.Proofs.YthagenodiofgnaaGreat.Fine
namespace Go.Proofs.YthagenodiofgnaaGreat.ValF
open Go.RowKit Go.Proofs.YthagenodiofgnaaGreat Go.Proofs.YthagenodiofgnaaGreat.Base Go.Proofs.YthagenodiofgnaaGreat.Mem Go.Proofs.YthagenodiofgnaaGreat.RatM Go.Proofs.YthagenodiofgnaaGreat.Blk
set_option linter.unusedVariables false
def vfB (n d : Int) : Bool := inR d 1 1000000000000000000 && (inR n (-1000000000000000000) 1000000000000000000 && decide (Nat.gcd n.natAbs d.toNat = 1))
theorem vfB_true {n d : Int} : vfB n d = true ↔ VF n d := by
 constructor
 ·intro h
  simp only [vfB, Bool.and_eq_true, decide_eq_true_eq] at h
  have h1 := inR_true h.1
  have h2 := inR_true h.2.1
  exact ⟨h1.1, h1.2, h2.1, h2.2, h.2.2⟩
 ·rintro ⟨h1, h2, h3, h4, h5⟩
  simp [vfB, inR_yes ⟨h1, h2⟩, inR_yes ⟨h3, h4⟩, h5]
theorem divisor_any (x y : Nat) (hx : x ≤ 1000000000000000000) (hy : y ≤ 1000000000000000000) (w : World) : Calls Tryz.prog 86 #[.int .i64 (x : Int), .int .i64 (y : Int)] w fun e w' => e = .returned (.int .i64 ((Nat.gcd x y : Nat) : Int)) ∧ ∃ n, w' = w.drewN n := by
 go_enter Tryz.func86, Tryz.ntmps86
 go_wp2
 go_loopw [0, 1] (fun av bv wr => (∃ n, wr = w.drewN n) ∧ ∃ p q : Nat, av = .int .i64 (p : Int) ∧ bv = .int .i64 (q : Int) ∧ p ≤ 1000000000000000000 ∧ q ≤ 1000000000000000000 ∧ Hid (Nat.gcd p q = Nat.gcd x y)) (fun _ bv _ => (intOf bv).toNat)
 case atStart => exact ⟨⟨0, rfl⟩, x, y, rfl, rfl, hx, hy, Lib.hid rfl⟩
 case round =>
  obtain ⟨⟨nw, rfl⟩, p, q, rfl, rfl, hp, hq, hg⟩ := hrel
  by_cases hpos : 0 < q
  ·have hlt := Nat.mod_lt p hpos
   have hG : Hid (Nat.gcd q (p % q) = Nat.gcd x y) := Lib.hid (by rw [← hg.out, Nat.gcd_comm q, ← Nat.gcd_rec, Nat.gcd_comm])
   have e1 : (p : Int) % (q : Int) = ((p % q : Nat) : Int) := by simp
   have e2 : (p : Int).tmod (q : Int) = ((p % q : Nat) : Int) := by rw [Int.tmod_eq_emod_of_nonneg (by omega)]; exact e1
   have hne : ¬ ((q : Int) = 0) := by omega
   clear hg
   generalize p % q = m at *
   go_wp2
   go_quiet (fail)
   go_wp2
   go_roundw
   case rel => exact ⟨⟨_, World.drewN_drewN _ _ _⟩, q, m, rfl, by first | rfl | rw [e1] | rw [e2], hq, by omega, hG⟩
   case measure => simp [intOf]; omega
  ·obtain rfl : q = 0 := by omega
   have hG := hg.out
   rw [Nat.gcd_zero_right] at hG
   go_wp2
   go_ret
   exact ⟨by rw [← hG]; rfl, nw, rfl⟩
theorem size_q (n : Int) (hn : n.natAbs ≤ 1000000000000000000) (w : World) : Calls Tryz.prog 87 #[.int .i64 n] w fun e w' => e = .returned (.int .i64 ((n.natAbs : Nat) : Int)) ∧ w' = w := (Ratio.size_int n hn w).mono fun _ _ h => ⟨h.1, h.2.symm⟩
theorem max_q (n : Int) (h1 : -1000000000000000000 ≤ n) (h2 : n ≤ 1000000000000000000) (w : World) : Calls Tryz.prog 80 #[.int .i64 n, .int .i64 (-n)] w fun e w' => e = .returned (.int .i64 ((n.natAbs : Nat) : Int)) ∧ w' = w := (Fine.maxG n h1 h2 w).mono fun _ _ h => ⟨h.1, h.2.symm⟩
theorem gcd_q (x y : Nat) (hx : x ≤ 1000000000000000000) (hy : y ≤ 1000000000000000000) (w : World) : Calls Tryz.prog 79 #[.int .i64 (x : Int), .int .i64 (y : Int)] w fun e w' => e = .returned (.int .i64 ((Nat.gcd x y : Nat) : Int)) ∧ w' = w := (Fine.gcdG x y hx hy w).mono fun _ _ h => ⟨h.1, h.2.symm⟩
set_option maxHeartbeats 1000000 in
theorem validI_any (n d : Int) (w : World) : Calls Tryz.prog 38 #[.agg #[.int .i64 n, .int .i64 d]] w fun e w' => e = .returned (.bool (vfB n d)) ∧ Below w.heap.size w w' := by
 cases hd : inR d 1 1000000000000000000
 ·go_enter Tryz.func38, Tryz.ntmps38
  go_wp2
  go_quiet ((go_at_call 56; exact Calls.quiet_of_same (inRange_qb hd _)))
  go_wp2
  go_ret
  exact ⟨ret_bool (by simp [vfB, hd]), below_drewN ((Below.refl _ _).alloc (Nat.le_refl _) _) _⟩
 ·cases hn : inR n (-1000000000000000000) 1000000000000000000
  ·go_enter Tryz.func38, Tryz.ntmps38
   go_wp2
   go_quiet ((go_at_call 56; (first | (with_reducible exact Calls.quiet_of_same (inRange_qb hd _)) | (with_reducible exact Calls.quiet_of_same (inRange_qb hn _)))))
   go_wp2
   go_ret
   exact ⟨ret_bool (by simp [vfB, hd, hn]), below_drewN ((Below.refl _ _).alloc (Nat.le_refl _) _) _⟩
  ·obtain ⟨hd1, hd2⟩ := inR_true hd
   obtain ⟨hn1, hn2⟩ := inR_true hn
   have hb : n.natAbs ≤ 1000000000000000000 := by omega
   have hwn : IntKind.i64.wrap (-n) = -n := by rw [IntKind.wrap_i64]; omega
   have HE : Hid (vfB n d = decide (((Nat.gcd n.natAbs d.toNat : Nat) : Int) = 1)) := Lib.hid (by
    rw [vfB, hd, hn]
    simp only [Bool.true_and]
    congr 1
    exact propext ⟨fun h => by omega, fun h => by omega⟩)
   obtain ⟨D, rfl⟩ : ∃ D : Nat, d = (D : Int) := ⟨d.toNat, by omega⟩
   have hb2 : D ≤ 1000000000000000000 := by omega
   rw [Int.toNat_natCast] at HE
   go_enter Tryz.func38, Tryz.ntmps38
   go_wp2
   go_quiet ((first | (go_at_call 56; (first | (with_reducible exact Calls.quiet_of_same (inRange_qb hd _)) | (with_reducible exact Calls.quiet_of_same (inRange_qb hn _)))) | (go_at_call 87; exact Calls.quiet_of_same (size_q _ hb _)) | (go_at_call 86; exact Calls.quiet_of (divisor_any _ _ hb hb2 _))))
   go_wp2
   go_ret
   exact ⟨ret_bool (by rw [HE.out]; first | rfl | simp), below_drewN ((Below.refl _ _).alloc (Nat.le_refl _) _) _⟩
set_option maxHeartbeats 1000000 in
theorem validS_any (n d : Int) (w : World) : Calls Tryz.prog 28 #[.agg #[.int .i64 n, .int .i64 d]] w fun e w' => e = .returned (.bool (vfB n d)) ∧ Below w.heap.size w w' := by
 cases hd : inR d 1 1000000000000000000
 ·go_enter Tryz.func28, Tryz.ntmps28
  go_wp2
  go_quiet ((go_at_call 62; exact Calls.quiet_of_same (l00In_qb hd _)))
  go_wp2
  go_ret
  exact ⟨ret_bool (by simp [vfB, hd]), below_drewN ((Below.refl _ _).alloc (Nat.le_refl _) _) _⟩
 ·cases hn : inR n (-1000000000000000000) 1000000000000000000
  ·go_enter Tryz.func28, Tryz.ntmps28
   go_wp2
   go_quiet ((go_at_call 62; (first | (with_reducible exact Calls.quiet_of_same (l00In_qb hd _)) | (with_reducible exact Calls.quiet_of_same (l00In_qb hn _)))))
   go_wp2
   go_ret
   exact ⟨ret_bool (by simp [vfB, hd, hn]), below_drewN ((Below.refl _ _).alloc (Nat.le_refl _) _) _⟩
  ·obtain ⟨hd1, hd2⟩ := inR_true hd
   obtain ⟨hn1, hn2⟩ := inR_true hn
   have hb : n.natAbs ≤ 1000000000000000000 := by omega
   have hwn : IntKind.i64.wrap (-n) = -n := by rw [IntKind.wrap_i64]; omega
   have HE : Hid (vfB n d = decide (((Nat.gcd n.natAbs d.toNat : Nat) : Int) = 1)) := Lib.hid (by
    rw [vfB, hd, hn]
    simp only [Bool.true_and]
    congr 1
    exact propext ⟨fun h => by omega, fun h => by omega⟩)
   obtain ⟨D, rfl⟩ : ∃ D : Nat, d = (D : Int) := ⟨d.toNat, by omega⟩
   have hb2 : D ≤ 1000000000000000000 := by omega
   rw [Int.toNat_natCast] at HE
   go_enter Tryz.func28, Tryz.ntmps28
   go_wp2
   go_quiet ((first | (go_at_call 62; (first | (with_reducible exact Calls.quiet_of_same (l00In_qb hd _)) | (with_reducible exact Calls.quiet_of_same (l00In_qb hn _)))) | (go_at_call 80; exact Calls.quiet_of_same (max_q _ hn1 hn2 _)) | (go_at_call 79; exact Calls.quiet_of_same (gcd_q _ _ hb hb2 _))))
   go_wp2
   go_ret
   exact ⟨ret_bool (by rw [HE.out]; first | rfl | simp), below_drewN ((Below.refl _ _).alloc (Nat.le_refl _) _) _⟩
end Go.Proofs.YthagenodiofgnaaGreat.ValF
set_option linter.unusedVariables false
namespace Go.Proofs.YthagenodiofgnaaGreat.GaussM
def sumR : Nat → (Nat → Rat) → Rat
 | 0, _ => 0
 | n + 1, f => sumR n f + f n
theorem sumR_congr {n : Nat} {f g : Nat → Rat} (h : ∀ j, j < n → f j = g j) : sumR n f = sumR n g := by
 induction n with
 | zero => rfl
 | succ n ih => rw [sumR, sumR, ih fun j hj => h j (by omega), h n (by omega)]
theorem sumR_zero {n : Nat} {f : Nat → Rat} (h : ∀ j, j < n → f j = 0) : sumR n f = 0 := by
 induction n with
 | zero => rfl
 | succ n ih => rw [sumR, ih fun j hj => h j (by omega), h n (by omega)]; grind
theorem sumR_add (n : Nat) (f g : Nat → Rat) : sumR n (fun j => f j + g j) = sumR n f + sumR n g := by
 induction n with
 | zero => show (0 : Rat) = 0 + 0; grind
 | succ n ih => rw [sumR, sumR, sumR, ih]; grind
theorem sumR_mul (n : Nat) (t : Rat) (f : Nat → Rat) : sumR n (fun j => t * f j) = t * sumR n f := by
 induction n with
 | zero => show (0 : Rat) = t * 0; grind
 | succ n ih => rw [sumR, sumR, ih]; grind
theorem sumR_one {n k : Nat} {f : Nat → Rat} (hk : k < n) (h : ∀ j, j < n → j ≠ k → f j = 0) : sumR n f = f k := by
 induction n with
 | zero => omega
 | succ n ih =>
  rw [sumR]
  by_cases e : k = n
  ·subst e
   rw [sumR_zero fun j hj => h j (by omega) (by omega)]; grind
  ·rw [ih (by omega) fun j hj => h j (by omega), h n (by omega) (by omega)]; grind
def Sol (M : Nat → Nat → Rat) (R n : Nat) (x : Nat → Rat) : Prop := ∀ r, r < R → sumR n (fun j => M r j * x j) = M r n
def Only (M : Nat → Nat → Rat) (R n : Nat) (x : Nat → Rat) : Prop := Sol M R n x ∧ ∀ y, Sol M R n y → ∀ j, j < n → y j = x j
theorem Sol.congr {M M' : Nat → Nat → Rat} {R n : Nat} {x y : Nat → Rat} (h : ∀ r, r < R → ∀ c, c ≤ n → M r c = M' r c) (hx : ∀ j, j < n → x j = y j) (hs : Sol M R n x) : Sol M' R n y := fun r hr => by
 rw [← h r hr n (Nat.le_refl _), ← hs r hr]
 exact sumR_congr fun j hj => by rw [h r hr j (by omega), hx j hj]
theorem Only.congr {M M' : Nat → Nat → Rat} {R n : Nat} {x : Nat → Rat} (h : ∀ r, r < R → ∀ c, c ≤ n → M r c = M' r c) (hs : Only M R n x) : Only M' R n x :=
 ⟨hs.1.congr h fun _ _ => rfl, fun y hy => hs.2 y (hy.congr (fun r hr c hc => (h r hr c hc).symm) fun _ _ => rfl)⟩
theorem Only.iff {M M' : Nat → Nat → Rat} {R R' n : Nat} {x : Nat → Rat} (h : ∀ y, Sol M R n y ↔ Sol M' R' n y) : Only M R n x ↔ Only M' R' n x := by
 constructor
 ·rintro ⟨h1, h2⟩; exact ⟨(h x).1 h1, fun y hy => h2 y ((h y).2 hy)⟩
 ·rintro ⟨h1, h2⟩; exact ⟨(h x).2 h1, fun y hy => h2 y ((h y).1 hy)⟩
theorem Only.same {M : Nat → Nat → Rat} {R n : Nat} {x y : Nat → Rat} (hx : Only M R n x) (hy : Only M R n y) : ∀ j, j < n → x j = y j := hy.2 x hx.1
def swapM (M : Nat → Nat → Rat) (i k : Nat) : Nat → Nat → Rat := fun r c => if r = k then M i c else if r = i then M k c else M r c
theorem swap_sol {M : Nat → Nat → Rat} {R n i k : Nat} {x : Nat → Rat} (hi : i < R) (hk : k < R) : Sol (swapM M i k) R n x ↔ Sol M R n x := by
 constructor
 ·intro h r hr
  by_cases e1 : r = k
  ·subst e1
   by_cases e2 : i = r
   ·have := h r hr; simpa [swapM, e2] using this
   ·have := h i hi; simpa [swapM, e2] using this
  ·by_cases e2 : r = i
   ·subst e2; have := h k hk; simpa [swapM] using this
   ·have := h r hr; simpa [swapM, e1, e2] using this
 ·intro h r hr
  unfold swapM
  by_cases e1 : r = k
  ·simp only [e1, if_true]; exact h i hi
  ·by_cases e2 : r = i
   ·simp only [e2, if_true]
    by_cases e3 : i = k
    ·simp only [e3, if_true]; exact h k hk
    ·simp only [e3, if_false]; exact h k hk
   ·simp only [e1, e2, if_false]; exact h r hr
def scaleM (M : Nat → Nat → Rat) (k : Nat) (t : Rat) : Nat → Nat → Rat := fun r c => if r = k then M k c * t else M r c
theorem scale_sol {M : Nat → Nat → Rat} {R n k : Nat} {t : Rat} {x : Nat → Rat} (ht : t ≠ 0) : Sol (scaleM M k t) R n x ↔ Sol M R n x := by
 have key : ∀ r, r < R → ((sumR n (fun j => scaleM M k t r j * x j) = scaleM M k t r n) ↔ (sumR n (fun j => M r j * x j) = M r n)) := by
  intro r hr
  unfold scaleM
  by_cases e : r = k
  ·subst e
   simp only [if_true]
   have : sumR n (fun j => M r j * t * x j) = t * sumR n (fun j => M r j * x j) := by
    rw [← sumR_mul]; exact sumR_congr fun j _ => by grind
   rw [this]
   constructor <;> intro h <;> grind
  ·simp only [e, if_false]
 exact ⟨fun h r hr => (key r hr).1 (h r hr), fun h r hr => (key r hr).2 (h r hr)⟩
def clearM (M : Nat → Nat → Rat) (k : Nat) : Nat → Nat → Rat := fun r c => if r = k then M k c else M r c - M r k * M k c
theorem clear_row {M : Nat → Nat → Rat} {n k r : Nat} {x : Nat → Rat} (e : r ≠ k) : sumR n (fun j => clearM M k r j * x j) = sumR n (fun j => M r j * x j) - M r k * sumR n (fun j => M k j * x j) := by
 rw [← sumR_mul]
 have : ∀ a b : Rat, a - b = a + (-1) * b := by intro a b; grind
 rw [this, ← sumR_mul, ← sumR_add]
 refine sumR_congr fun j _ => ?_
 unfold clearM
 simp only [e, if_false]
 grind
theorem clear_sol {M : Nat → Nat → Rat} {R n k : Nat} {x : Nat → Rat} (hk : k < R) : Sol (clearM M k) R n x ↔ Sol M R n x := by
 have hkk : ∀ c, clearM M k k c = M k c := fun c => by simp [clearM]
 constructor
 ·intro h r hr
  have h0 := h k hk
  simp only [hkk] at h0
  by_cases e : r = k
  ·subst e; exact h0
  ·have := h r hr
   rw [clear_row e, h0] at this
   have e2 : clearM M k r n = M r n - M r k * M k n := by simp [clearM, e]
   rw [e2] at this
   grind
 ·intro h r hr
  have h0 := h k hk
  by_cases e : r = k
  ·subst e; simp only [hkk]; exact h0
  ·rw [clear_row e, h0, h r hr]
   simp [clearM, e]
def Unit (M : Nat → Nat → Rat) (R k : Nat) : Prop := ∀ j, j < k → ∀ r, r < R → M r j = if r = j then 1 else 0
def stageM (M : Nat → Nat → Rat) (i k : Nat) : Nat → Nat → Rat := clearM (scaleM (swapM M i k) k (M i k)⁻¹) k
theorem stage_sol {M : Nat → Nat → Rat} {R n i k : Nat} {x : Nat → Rat} (hi : i < R) (hk : k < R) (h : M i k ≠ 0) : Sol (stageM M i k) R n x ↔ Sol M R n x := by
 unfold stageM
 have ht : (M i k)⁻¹ ≠ 0 := by
  intro e
  have := Rat.mul_inv_cancel (M i k) h
  rw [e] at this
  grind
 exact (clear_sol hk).trans ((scale_sol ht).trans (swap_sol hi hk))
theorem stage_unit {M : Nat → Nat → Rat} {R i k : Nat} (hU : Unit M R k) (hki : k ≤ i) (hi : i < R) (hk : k < R) (h : M i k ≠ 0) : Unit (stageM M i k) R (k + 1) := by
 intro j hj r hr
 have hinv := Rat.mul_inv_cancel (M i k) h
 have hpiv : ∀ c, scaleM (swapM M i k) k (M i k)⁻¹ k c = M i c * (M i k)⁻¹ := fun c => by simp [scaleM, swapM]
 have hoth : ∀ r c, r ≠ k → scaleM (swapM M i k) k (M i k)⁻¹ r c = if r = i then M k c else M r c := fun r c e => by simp [scaleM, swapM, e]
 unfold stageM clearM
 by_cases e : r = k
 ·simp only [e, if_true, hpiv]
  by_cases ej : j = k
  ·simp only [ej, if_true, hinv]
  ·have h1 := hU j (by omega) i hi
   rw [if_neg (by omega)] at h1
   rw [h1, if_neg (by omega)]; grind
 ·simp only [e, if_false, hpiv]
  rw [hoth r j e, hoth r k e]
  by_cases ej : j = k
  ·subst ej
   rw [hinv, if_neg e]; grind
  ·have h1 := hU j (by omega) i hi
   rw [if_neg (by omega)] at h1
   rw [h1]
   by_cases ei : r = i
   ·have h2 := hU j (by omega) k hk
    rw [if_neg (by omega)] at h2
    simp only [ei, if_true, h2]
    rw [if_neg (by omega)]; grind
   ·have h2 := hU j (by omega) r hr
    simp only [ei, if_false, h2]; grind
theorem unit_sol {M : Nat → Nat → Rat} {R n : Nat} {x : Nat → Rat} (hU : Unit M R n) (hn : n ≤ R) : Sol M R n x ↔ (∀ j, j < n → x j = M j n) ∧ ∀ r, n ≤ r → r < R → M r n = 0 := by
 have key1 : ∀ r, r < n → sumR n (fun j => M r j * x j) = x r := fun r hr => by
  rw [sumR_one hr]
  ·rw [hU r hr r (by omega), if_pos rfl]; grind
  ·intro j hj e
   rw [hU j hj r (by omega), if_neg (by omega)]; grind
 have key2 : ∀ r, n ≤ r → r < R → sumR n (fun j => M r j * x j) = 0 := fun r hr h2 => sumR_zero fun j hj => by
  rw [hU j hj r h2, if_neg (by omega)]; grind
 constructor
 ·intro h
  refine ⟨fun j hj => ?_, fun r h1 h2 => ?_⟩
  ·have := h j (by omega); rw [key1 j hj] at this; exact this
  ·have := h r h2; rw [key2 r h1 h2] at this; exact this.symm
 ·rintro ⟨h1, h2⟩ r hr
  rcases Nat.lt_or_ge r n with h | h
  ·rw [key1 r h]; exact h1 r h
  ·rw [key2 r h hr, h2 r h hr]
theorem unit_only {M : Nat → Nat → Rat} {R n : Nat} (hU : Unit M R n) (hn : n ≤ R) (h0 : ∀ r, n ≤ r → r < R → M r n = 0) : Only M R n (fun j => M j n) :=
 ⟨(unit_sol hU hn).2 ⟨fun _ _ => rfl, h0⟩, fun y hy => ((unit_sol hU hn).1 hy).1⟩
theorem unit_none {M : Nat → Nat → Rat} {R n r : Nat} (hU : Unit M R n) (hn : n ≤ R) (h1 : n ≤ r) (h2 : r < R) (h0 : M r n ≠ 0) (x : Nat → Rat) : ¬ Only M R n x :=
 fun h => h0 (((unit_sol hU hn).1 h.1).2 r h1 h2)
theorem col_none {M : Nat → Nat → Rat} {R n k : Nat} (hU : Unit M R k) (hk : k < n) (hkR : k ≤ R) (h0 : ∀ r, k ≤ r → r < R → M r k = 0) (x : Nat → Rat) : ¬ Only M R n x := by
 rintro ⟨hs, ho⟩
 have hy : Sol M R n (fun j => if j = k then x j + 1 else if j < k then x j - M j k else x j) := by
  intro r hr
  have h1 := hs r hr
  have e : sumR n (fun j => M r j * (if j = k then x j + 1 else if j < k then x j - M j k else x j)) = sumR n (fun j => M r j * x j) + sumR n (fun j => M r j * (if j = k then 1 else if j < k then -M j k else 0)) := by
   rw [← sumR_add]
   refine sumR_congr fun j _ => ?_
   split
   ·grind
   ·split <;> grind
  rw [e, h1]
  have e2 : sumR n (fun j => M r j * (if j = k then 1 else if j < k then -M j k else 0)) = 0 := by
   have e3 : sumR n (fun j => M r j * (if j = k then 1 else if j < k then -M j k else 0)) = sumR n (fun j => if j = k then M r k else 0) + sumR n (fun j => if j < k then M r j * -M j k else 0) := by
    rw [← sumR_add]
    refine sumR_congr fun j _ => ?_
    by_cases e1 : j = k
    ·subst e1; simp only [if_true, Nat.lt_irrefl, if_false]; grind
    ·simp only [e1, if_false]; split <;> grind
   rw [e3, sumR_one hk (fun j _ e => by simp only [e, if_false])]
   simp only [if_true]
   rcases Nat.lt_or_ge r k with hrk | hrk
   ·rw [sumR_one (show r < n by omega) (fun j hj e => ?_)]
    ·simp only [hrk, if_true]
     rw [hU r hrk r hr, if_pos rfl]; grind
    ·split
     ·rename_i hjk
      rw [hU j hjk r hr, if_neg (by omega)]; grind
     ·rfl
   ·rw [h0 r hrk hr, sumR_zero]
    ·grind
    ·intro j hj
     split
     ·rename_i hjk
      rw [hU j hjk r hr, if_neg (by omega)]; grind
     ·rfl
  rw [e2]; grind
 have := ho _ hy k hk
 simp only [if_true] at this
 grind
end Go.Proofs.YthagenodiofgnaaGreat.GaussM
namespace Go.Proofs.YthagenodiofgnaaGreat.ChM
open Go.RowKit Go.Proofs.YthagenodiofgnaaGreat Go.Proofs.YthagenodiofgnaaGreat.Base Go.Proofs.YthagenodiofgnaaGreat.RatM Go.Proofs.YthagenodiofgnaaGreat.GaussM Go.Proofs.YthagenodiofgnaaGreat.ValF
set_option linter.unusedVariables false
theorem vf_zero : VF 0 1 := ⟨by decide, by decide, by decide, by decide, by decide⟩
theorem qf_zero : qf 0 1 = 0 := by
 unfold qf
 rw [show (0 : Int).natAbs = 0 from rfl, qv_zero]
def fq (fs : List Int) (i : Nat) : Rat := qf (fs.getD (2 * i) 0) (fs.getD (2 * i + 1) 0)
def AllVF (fs : List Int) (n : Nat) : Prop := ∀ i, i < n → VF (fs.getD (2 * i) 0) (fs.getD (2 * i + 1) 0)
def vfAll (fs : List Int) (n : Nat) : Bool := (List.range n).all fun i => vfB (fs.getD (2 * i) 0) (fs.getD (2 * i + 1) 0)
def posAll (fs : List Int) (n : Nat) : Bool := (List.range n).all fun i => decide (0 ≤ fs.getD (2 * i) 0)
theorem all_range {p : Nat → Bool} {n : Nat} : (List.range n).all p = true ↔ ∀ i, i < n → p i = true := by
 simp [List.all_eq_true]
theorem vfAll_true {fs : List Int} {n : Nat} : vfAll fs n = true ↔ AllVF fs n := by
 unfold vfAll AllVF
 rw [all_range]
 exact ⟨fun h i hi => vfB_true.1 (h i hi), fun h i hi => vfB_true.2 (h i hi)⟩
def chB (fs : List Int) (n : Nat) : Bool := decide (1 ≤ n) && (decide (n ≤ 16) && (vfAll fs n && (posAll fs n && decide (sumR n (fq fs) = 1))))
theorem all_no {p : Nat → Bool} {n i : Nat} (hi : i < n) (h : p i = false) : (List.range n).all p = false := by
 cases h' : (List.range n).all p with
 | false => rfl
 | true => rw [all_range.1 h' i hi] at h; cases h
theorem chB_short {fs : List Int} {n : Nat} (h : n < 1) : chB fs n = false := by simp [chB]; omega
theorem chB_long {fs : List Int} {n : Nat} (h : 16 < n) : chB fs n = false := by
 unfold chB
 rw [show decide (n ≤ 16) = false by simp; omega]
 simp
theorem chB_vf {fs : List Int} {n : Nat} (h : vfAll fs n = false) : chB fs n = false := by simp [chB, h]
theorem chB_neg {fs : List Int} {n : Nat} (h : posAll fs n = false) : chB fs n = false := by simp [chB, h]
theorem chB_sum {fs : List Int} {n : Nat} (h1 : 1 ≤ n) (h2 : n ≤ 16) (h3 : vfAll fs n = true) (h4 : posAll fs n = true) : chB fs n = decide (sumR n (fq fs) = 1) := by simp [chB, h1, h2, h3, h4]
end Go.Proofs.YthagenodiofgnaaGreat.ChM
namespace Go.Proofs.YthagenodiofgnaaGreat.Ratio
open Go.RowKit Go.Proofs.YthagenodiofgnaaGreat Go.Proofs.YthagenodiofgnaaGreat.Base Go.Proofs.YthagenodiofgnaaGreat.Mem Go.Proofs.YthagenodiofgnaaGreat.NatM Go.Proofs.YthagenodiofgnaaGreat.Nat32 Go.Proofs.YthagenodiofgnaaGreat.RatM Go.Proofs.YthagenodiofgnaaGreat.Blk Go.Proofs.YthagenodiofgnaaGreat.MemF Go.Proofs.YthagenodiofgnaaGreat.GiveM Go.Proofs.YthagenodiofgnaaGreat.ChM
open Go.Proofs.YthagenodiofgnaaGreat.Inv (natOf natOf_eq len_pos Rat3 not_slice not_bool frz)
set_option linter.unusedVariables false
theorem ratioOf_vf {n d : Int} (h : VF n d) (w : World) : Calls Tryz.prog 47 #[.agg #[.int .i64 n, .int .i64 d]] w fun e w' => ∃ A c A' c', e = .returned (.agg #[.bool (decide (qf n d < 0)), .slice A (natL (qf n d).num.natAbs).length c, .slice A' (natL (qf n d).den).length c']) ∧ RdV w w' A (natL (qf n d).num.natAbs) ∧ RdV w w' A' (natL (qf n d).den) ∧ Below w.heap.size w w' := by
 obtain ⟨g1, g2, g3⟩ := h.num
 have := ratioOf_new n d (by have := h.2.2.1; have := h.2.2.2.1; omega) (by have := h.1; omega) h.2.1 w
 rw [g1, g3, show (qf n d).den = d.toNat by omega]
 exact this
def RsRel (fs : List Int) (n : Nat) (w : World) (iv ov : Value) (wr : World) : Prop :=
 ∃ (i : Nat) (cs : List Value), iv = .int .i64 (i : Int) ∧ i ≤ n ∧ Hid (OwnR wr w.heap.size ov i (fq fs) cs) ∧ Hid (Below w.heap.size w wr)
theorem RsRel.next {fs : List Int} {n i : Nat} {w wr w1 w2 : World} {v v' : Value} {cs : List Value} {A1 A2 : Option Addr} {c1 c2 : Nat} {ca : Array Value} {t : TypeId} (hi : i < n) (h : OwnR wr w.heap.size v i (fq fs) cs) (hb : Below w.heap.size w wr) (h1 : Below wr.heap.size wr w1)
  (d1 : RdV wr w1 A1 (natL (fq fs i).num.natAbs)) (d2 : RdV wr w1 A2 (natL (fq fs i).den)) (hown : w2.ownsRow w.heap.size 82 3 v' (i + 1) (cs ++ rt3 (fq fs i) A1 A2 c1 c2)) (hg : (w1.alloc (.cells ca t)).grownBy w2 v.ownBlock) (he : v'.ownBlock = v.ownBlock ∨ v'.ownBlock = some (w1.alloc (.cells ca t)).heap.size) : RsRel fs n w (.int .i64 ((i : Int) + 1)) v' w2 := by
 have hb1 : Below wr.heap.size wr (w1.alloc (.cells ca t)) := h1.alloc h1.size _
 refine ⟨i + 1, _, by simp, hi, Lib.hid (h.push h1 d1.1 d2.1 (fun _ => d1.apart h.row) (fun _ => d2.apart h.row) hown hg he), Lib.hid ?_⟩
 exact (hb.trans (hb1.mono hb.size)).trans (grown_below hg (fun g e => (ownsRow_block h.row e).choose_spec.2.1) (Nat.le_trans hb.size hb1.size))
set_option maxHeartbeats 2000000 in
set_option maxRecDepth 100000 in
theorem ratios_any {A : Option Addr} {c B n : Nat} {fs : List Int} (w : World) (hx : RdF w B A n fs) (hB : B ≤ w.heap.size) (hv : AllVF fs n) (hn : n ≤ 1000) : Calls Tryz.prog 40 #[.slice A n c] w (RsRet n (fq fs) w) := by
 obtain ⟨iw, wi, wz0, wz1, wz2⟩ := info_parts infoR
 have HX := Lib.hid (hx.more hB)
 have HV := Lib.hid hv
 have H0 : Hid (RsRel fs n w (.int .i64 0) (.slice (some ⟨w.heap.size, 0, none⟩) 0 0) (w.alloc (.cells #[] 82))) := Lib.hid ⟨0, [], rfl, Nat.zero_le _, Lib.hid (OwnR.lit0 w _), Lib.hid ((Below.refl _ _).alloc (Nat.le_refl _) _)⟩
 clear hx hv
 go_enter Tryz.func40, Tryz.ntmps40
 go_wp2
 go_loopw [9, 3] (fun iv ov wr => RsRel fs n w iv ov wr) (fun iv _ _ => n - (intOf iv).toNat)
 case atStart => exact H0.out
 case round =>
  obtain ⟨i, cs, rfl, hi, HO, HB⟩ := hrel
  clear H0
  by_cases hlt : i < n
  ·obtain ⟨b, off, rfl, hbl, g1, g2⟩ := (HX.out.below HB.out (Nat.le_refl _)).at hlt
   have HW := Lib.hid (fun W => ratioOf_vf (HV.out i hlt) W)
   have hfq : qf (fs.getD (2 * i) 0) (fs.getD (2 * i + 1) 0) = fq fs i := rfl
   rw [hfq] at HW
   clear hfq
   have HNX := Lib.hid (fun (w1 w2 : World) v' A1 A2 c1 c2 ca t h1 d1 d2 hown hg he => RsRel.next (w1 := w1) (w2 := w2) (v' := v') (A1 := A1) (A2 := A2) (c1 := c1) (c2 := c2) (ca := ca) (t := t) hlt HO.out HB.out h1 d1 d2 hown hg he)
   unfold rt3 at HNX
   generalize fs.getD (2 * i) 0 = x0 at *
   generalize fs.getD (2 * i + 1) 0 = x1 at *
   generalize fq fs i = q at *
   have hsz := HB.out.size
   go_upto_region 5 with (fail)
   obtain ⟨W1, hW1⟩ : ∃ W1, W1 = wr.alloc (.cells #[.int .i64 x0, .int .i64 x1] 34) := ⟨_, rfl⟩
   rw [← hW1]
   have K1 : Hid (Blk W1 wr.heap.size 34 #[.int .i64 x0, .int .i64 x1]) := Lib.hid (by rw [hW1]; exact Blk.new wr _ _)
   have HB1 : Hid (Below wr.heap.size wr W1) := Lib.hid (by rw [hW1]; exact (Below.refl _ _).alloc (Nat.le_refl _) _)
   have hs1 := HB1.out.size
   have y0 := K1.out.at 0 (v := .int .i64 x0) rfl
   have y1 := K1.out.at 1 (v := .int .i64 x1) rfl
   clear hW1 g1 g2
   go_wp2_with fail
   refine (HW.out _).mono ?_
   rintro e w2 ⟨A1, c1, A2, c2, rfl, d1, d2, hb2⟩
   have HB2 := Lib.hid (Base.Below.nextA HB1.out hb2)
   have hs2 := HB2.out.size
   have HD := Lib.hid (And.intro (d1.old HB1.out.size) (d2.old HB1.out.size))
   have HNN := Lib.hid (fun w3 v' ca t hown hg he => HNX.out w2 w3 v' A1 A2 c1 c2 ca t HB2.out HD.out.1 HD.out.2 hown hg he)
   have HW0 := Lib.hid (fun o => World.ownsRow.alloc (ownsRow_below HO.out.row HB2.out) o)
   clear d1 d2 hb2 HO HB y0 y1 HW HNX HD
   generalize decide (q < 0) = s at *
   generalize (natL q.num.natAbs).length = k1 at *
   generalize (natL q.den).length = k2 at *
   have HW2 := Lib.hid (HW0.out (.cells #[.bool s, .slice A1 k1 c1, .slice A2 k2 c2] 82))
   clear HW0
   go_wp2_with (at_builtin; refine wpList_append_own_at _ rfl (.tmp 13) (.tmp 16) 76 rfl w.heap.size 82 iw (.agg #[.bool false, .slice none 0 0, .slice none 0 0]) 3 56 Tryz.underlying76 wi wz0 wz1 wz2 rfl (by decide) _ _ _ rfl HW2.out ⟨w2.heap.size, 0, none⟩ 1 1 [.bool s, .slice A1 k1 c1, .slice A2 k2 c2] rfl rfl ?p1a ?p2a ?p3a ?p4a ?p5a ?_)
   try case p1a => exact news_three _ _ (by simp)
   try case p2a => exact ones_three
   try case p3a => first | (simp only [maxLen]; omega) | omega
   try case p4a => omega
   try case p5a => first | (simp only [World.size_alloc]; omega) | omega
   intro v' w3 hown' hg' _ he
   have HN3 := Lib.hid (HNN.out w3 v' _ _ hown' hg' (by rw [World.size_alloc]; exact he))
   clear hown' hg' he HNN HW2
   go_wp2
   go_roundw
   case rel => exact HN3.out
   case measure => simp [intOf]; omega
  ·obtain rfl : i = n := by omega
   obtain ⟨A', c', rfl, _⟩ := HO.out.form
   have HR : Hid (RsRet i (fq fs) w (.returned (.slice A' i c')) wr) := Lib.hid ⟨_, cs, rfl, HO.out, HB.out⟩
   clear HO HB
   go_wp2
   go_ret
   exact HR.out
set_option maxHeartbeats 2000000 in
set_option maxRecDepth 100000 in
theorem fractions_any {A : Option Addr} {c n : Nat} {f : Nat → Rat} (w : World) (hx : RdR w A n f) (hn : n ≤ 1000) : Calls Tryz.prog 55 #[.slice A n c] w (FsRet (gN f n) (gR f n) (smallAll f n) w) := by
 have HX := Lib.hid hx
 obtain ⟨i2, ki, kz0, kz1, kz2⟩ := info_parts infoFr
 have H0 := Lib.hid (GRel.start f n w)
 clear hx
 go_enter Tryz.func55, Tryz.ntmps55
 go_wp2
 go_loopw [12, 4] (fun iv sv wr => GRel f n w iv sv wr) (fun iv _ _ => n - (intOf iv).toNat)
 case atStart => exact H0.out
 case round =>
  obtain ⟨i, rfl, hi, HO, HA, HB⟩ := hrel
  clear H0
  by_cases hlt : i < n
  ·obtain ⟨g, s, A1, k1, c1, A2, k2, c2, rfl, hgl, y0, y1, y2, hp'⟩ := (HX.out.below HB.out).at hlt
   have HF : Hid (∀ w1 w2 v' cs t, smallQ (f i) = true → Below wr.heap.size wr w1 → _ → _ → _) := Lib.hid (fun w1 w2 v' cs t hv h1 hown hg => GRel.next (w1 := w1) (w2 := w2) (v' := v') (cs := cs) (t := t) hlt HO.out HA.out hv HB.out h1 hown hg)
   have HNO := Lib.hid (fun h => GiveM.small_no hlt (show smallQ (f i) = false from h))
   go_upto_region 5 with (fail)
   obtain ⟨W1, hW1⟩ : ∃ W1, W1 = wr.alloc (.cells #[.bool s, .slice A1 k1 c1, .slice A2 k2 c2] 82) := ⟨_, rfl⟩
   rw [← hW1]
   have K1 : Hid (Blk W1 wr.heap.size 82 #[.bool s, .slice A1 k1 c1, .slice A2 k2 c2]) := Lib.hid (by rw [hW1]; exact Blk.new wr _ _)
   have HB1 : Hid (Below wr.heap.size wr W1) := Lib.hid (by rw [hW1]; exact (Below.refl _ _).alloc (Nat.le_refl _) _)
   have HG := Lib.hid (ratFraction W1 (hp'.below HB1.out))
   have z0 := K1.out.at 0 (v := .bool s) rfl
   have z1 := K1.out.at 1 (v := .slice A1 k1 c1) rfl
   have z2 := K1.out.at 2 (v := .slice A2 k2 c2) rfl
   clear hp' hgl y0 y1 y2 hW1
   generalize f i = q at *
   generalize numQ q = P at *
   generalize denQ q = Q at *
   go_wp2_with fail
   refine HG.out.mono ?_
   rintro e w1 ⟨rfl, hb1⟩
   have HB3 := Lib.hid (Base.Below.nextA HB1.out hb1)
   clear hb1 z0 z1 z2 HG HB1 K1
   go_upto_region 6 with (fail)
   obtain ⟨W2, hW2⟩ : ∃ W2, W2 = w1.alloc (.cells #[.int .i64 P, .int .i64 Q] 34) := ⟨_, rfl⟩
   rw [← hW2]
   have K2 : Hid (Blk W2 w1.heap.size 34 #[.int .i64 P, .int .i64 Q]) := Lib.hid (by rw [hW2]; exact Blk.new w1 _ _)
   have HB2 : Hid (Below wr.heap.size wr W2) := Lib.hid (by rw [hW2]; exact HB3.out.alloc HB3.out.size _)
   have hsz := HB.out.size
   have hsz2 := HB2.out.size
   cases hs : smallQ q with
   | false =>
    have HN := Lib.hid (HNO.out hs)
    have HBB := Lib.hid (Base.Below.nextA HB.out HB2.out)
    clear hW2 hs HNO HF
    go_wp2
    go_ret2
    rw [HN.out.1, HN.out.2.1, HN.out.2.2]
    exact FsRet.no HBB.out
   | true =>
    have HNN := Lib.hid (fun w3 v' cs t hown hg => HF.out W2 w3 v' cs t hs HB2.out hown hg)
    have HW2 := Lib.hid (World.ownsRow.alloc (ownsRow_below HO.out HB2.out) (.cells #[.int .i64 P, .int .i64 Q] 34))
    have x0 := K2.out.at 0 (v := .int .i64 P) rfl
    have x1 := K2.out.at 1 (v := .int .i64 Q) rfl
    clear hW2 hs HNO HF HO HA HB HB3 HB2
    go_wp2_with (at_builtin; refine wpList_append_own_at _ rfl (.tmp 23) (.tmp 25) 41 rfl w.heap.size 34 i2 (.agg #[.int .i64 0, .int .i64 0]) 2 16 Tryz.underlying41 ki kz0 kz1 kz2 rfl (by decide) _ _ _ rfl HW2.out ⟨W2.heap.size, 0, none⟩ 1 1 [.int .i64 P, .int .i64 Q] rfl rfl ?p1a ?p2a ?p3a ?p4a ?p5a ?_)
    try case p1a => exact MemF.news_two _ _ (by simp)
    try case p2a => exact MemF.ones_two
    try case p3a => first | (simp only [maxLen]; omega) | omega
    try case p4a => omega
    try case p5a => first | (simp only [World.size_alloc]; omega) | omega
    intro v' w3 hown' hg' _ he
    have HN3 := Lib.hid (HNN.out w3 v' _ _ hown' hg')
    clear hown' hg' he HNN HW2
    go_wp2
    go_roundw
    case rel => exact HN3.out
    case measure => simp [intOf]; omega
  ·obtain rfl : i = n := by omega
   obtain ⟨A', cp, rfl, _⟩ := HO.out.form
   have HY := Lib.hid (GiveM.small_yes' HA.out)
   clear HA
   go_wp2
   go_ret2
   rw [HY.out.1, HY.out.2.1, HY.out.2.2]
   exact ⟨A', cp, rfl, HO.out, HB.out⟩
end Go.Proofs.YthagenodiofgnaaGreat.Ratio
namespace Go.Proofs.YthagenodiofgnaaGreat.WalkM
open Go.RowKit Go.Proofs.YthagenodiofgnaaGreat Go.Proofs.YthagenodiofgnaaGreat.Base Go.Proofs.YthagenodiofgnaaGreat.Mem Go.Proofs.YthagenodiofgnaaGreat.MemF Go.Proofs.YthagenodiofgnaaGreat.ChM
set_option linter.unusedVariables false
def RdFF (w : World) (B : Nat) (A : Option Addr) (n : Nat) (L : Nat → Nat) (fs : Nat → List Int) : Prop :=
 0 < n → ∃ b off, A = some ⟨b, off, none⟩ ∧ b < B ∧ ∀ i, i < n → ∃ A' c, w.cell? ⟨b, off + i, none⟩ = some (.slice A' (L i) c) ∧ RdF w B A' (L i) (fs i)
theorem RdFF.below {w w' : World} {B C n : Nat} {A : Option Addr} {L : Nat → Nat} {fs : Nat → List Int} (h : RdFF w B A n L fs) (hb : Below C w w') (hBC : B ≤ C) : RdFF w' B A n L fs := fun h0 => by
 obtain ⟨b, off, e, hlt, hc⟩ := h h0
 refine ⟨b, off, e, hlt, fun i hi => ?_⟩
 obtain ⟨A', c, h1, h2⟩ := hc i hi
 exact ⟨A', c, (hb.cell (p := ⟨b, off + i, none⟩) (by show b < C; omega)).trans h1, h2.below hb hBC⟩
theorem RdFF.more {w : World} {B C n : Nat} {A : Option Addr} {L : Nat → Nat} {fs : Nat → List Int} (h : RdFF w B A n L fs) (hBC : B ≤ C) : RdFF w C A n L fs := fun h0 => by
 obtain ⟨b, off, e, hlt, hc⟩ := h h0
 refine ⟨b, off, e, by omega, fun i hi => ?_⟩
 obtain ⟨A', c, h1, h2⟩ := hc i hi
 exact ⟨A', c, h1, h2.more hBC⟩
theorem RdFF.at {w : World} {B n : Nat} {A : Option Addr} {L : Nat → Nat} {fs : Nat → List Int} (h : RdFF w B A n L fs) {i : Nat} (hi : i < n) : ∃ b off A' c, A = some ⟨b, off, none⟩ ∧ b < B ∧ w.cell? ⟨b, off + i, none⟩ = some (.slice A' (L i) c) ∧ RdF w B A' (L i) (fs i) := by
 obtain ⟨b, off, e, hlt, hc⟩ := h (by omega)
 obtain ⟨A', c, h1, h2⟩ := hc i hi
 exact ⟨b, off, A', c, e, hlt, h1, h2⟩
def rowOk (n : Nat) (L : Nat → Nat) (fs : Nat → List Int) (i : Nat) : Bool := decide (L i = n) && chB (fs i) (L i)
def wkB (n : Nat) (L : Nat → Nat) (fs : Nat → List Int) : Bool := decide (1 ≤ n ∧ n ≤ 6) && (List.range n).all (rowOk n L fs)
theorem wkB_out {n : Nat} {L : Nat → Nat} {fs : Nat → List Int} (h : ¬ (1 ≤ n ∧ n ≤ 6)) : wkB n L fs = false := by
 unfold wkB; rw [decide_eq_false h]; rfl
theorem wkB_in {n : Nat} {L : Nat → Nat} {fs : Nat → List Int} (h : 1 ≤ n ∧ n ≤ 6) : wkB n L fs = (List.range n).all (rowOk n L fs) := by
 unfold wkB; rw [decide_eq_true h]; rfl
theorem wkB_true {n : Nat} {L : Nat → Nat} {fs : Nat → List Int} (h : wkB n L fs = true) : 1 ≤ n ∧ n ≤ 6 ∧ ∀ i, i < n → L i = n ∧ chB (fs i) n = true := by
 simp only [wkB, Bool.and_eq_true, decide_eq_true_eq] at h
 refine ⟨h.1.1, h.1.2, fun i hi => ?_⟩
 have := all_range.1 h.2 i hi
 simp only [rowOk, Bool.and_eq_true, decide_eq_true_eq] at this
 exact ⟨this.1, by rw [← this.1]; exact (by have h2 := this.2; rw [this.1] at h2 ⊢; exact h2)⟩
end Go.Proofs.YthagenodiofgnaaGreat.WalkM

/- The reference's fractions of any size: 1 divided by one. -/
import Derived.Test.YtionognmgcabbaaGreatMgHit15
import Derived.Test.YtionognmgcabbaaGreatMgHit19
import Derived.Deep.Cut
import Derived.Test.YtionognmgcabbaaGreatMgHit10
namespace Go.Proofs.YtionognmgcabbaaGreat.Wide
open Go.RowKit Go.Proofs.YtionognmgcabbaaGreat Go.Proofs.YtionognmgcabbaaGreat.Base Go.Proofs.YtionognmgcabbaaGreat.Mem Go.Proofs.YtionognmgcabbaaGreat.RatM Go.Proofs.YtionognmgcabbaaGreat.BigM Go.Proofs.YtionognmgcabbaaGreat.Big Go.Proofs.YtionognmgcabbaaGreat.Fine Go.Proofs.YtionognmgcabbaaGreat.Blk
set_option linter.unusedVariables false
set_option maxHeartbeats 400000 in
set_option maxRecDepth 100000 in
theorem fMakeN (n b : Int) (d : Nat) (h1 : -1000000000000000000 ≤ n) (h2 : n ≤ 1000000000000000000) (hd : 0 < d) (hd2 : d ≤ 1000000000000000000) (hb : -b = (d : Int)) (w : World) : Calls Tryz.prog 68 #[.int .i64 n, .int .i64 b] w fun e w' => e = .returned (lowV (-n) d) ∧ Below w.heap.size w w' := by
  have hg0 : 0 < Nat.gcd (-n).natAbs d := Nat.gcd_pos_of_pos_right _ hd
  have hg1 : Nat.gcd (-n).natAbs d ≤ d := Nat.gcd_le_right _ hd
  have hdv := Nat.gcd_dvd_left (-n).natAbs d
  obtain ⟨e1, _, _⟩ := exact_div hdv hg0
  have e2 : (d : Int) / ((Nat.gcd (-n).natAbs d : Nat) : Int) = ((d / Nat.gcd (-n).natAbs d : Nat) : Int) := by simp
  have b2 : d / Nat.gcd (-n).natAbs d ≤ d := Nat.div_le_self _ _
  have b3 : ((-n) / ((Nat.gcd (-n).natAbs d : Nat) : Int)).natAbs ≤ 1000000000000000000 := by
    obtain ⟨_, q2, _⟩ := exact_div hdv hg0
    rw [q2]; exact Nat.le_trans (Nat.div_le_self _ _) (by omega)
  have HM := Lib.hid (fun W => maxG (-n) (by omega) (by omega) W)
  have HG := Lib.hid (fun W => gcdG (-n).natAbs d (by omega) hd2 W)
  have hlt : b < 0 := by omega
  have hw1 : IntKind.i64.wrap (-n) = -n := by rw [IntKind.wrap_i64]; omega
  have hw2 : IntKind.i64.wrap n = n := by rw [IntKind.wrap_i64]; omega
  have hw3 : IntKind.i64.wrap (-b) = d := by rw [IntKind.wrap_i64]; omega
  rw [Int.neg_neg] at HM
  unfold lowV
  clear hdv
  generalize (-n) / ((Nat.gcd (-n).natAbs d : Nat) : Int) = N at *
  generalize d / Nat.gcd (-n).natAbs d = D at *
  generalize Nat.gcd (-n).natAbs d = G at *
  rw [Int.natAbs_neg] at HM HG
  go_enter Tryz.func68, Tryz.ntmps68
  go_wp2_with fail
  have hm := HM.out (w.alloc (.cells #[.int .i64 0, .int .i64 0] 43))
  refine Calls.mono hm ?_
  rintro e w1 ⟨rfl, rfl⟩
  go_wp2_with fail
  have hg := HG.out (w.alloc (.cells #[.int .i64 0, .int .i64 0] 43))
  refine Calls.mono hg ?_
  rintro e w1 ⟨rfl, rfl⟩
  clear hm hg HM HG hw1 hw2 hw3 hb
  go_wp2_with fail
  go_region
  go_wp2
  refine bodyPost_ret (v := .agg #[.int .i64 N, .int .i64 (D : Int)]) (by simp [results, Tryz.results68, go_sem]) rfl ⟨rfl, ?_⟩
  exact ((Below.refl _ _).alloc (Nat.le_refl _) _).drew
theorem lowV_one {n : Int} {d : Nat} (h : Nat.gcd n.natAbs d = 1) : lowV n d = .agg #[.int .i64 n, .int .i64 (d : Int)] := by
  unfold lowV
  rw [h]
  simp
/-- 1 divided by a valid fraction other than 0 -/
theorem inv_vf {fn fd : Int} (h : VF fn fd) (h0 : fn ≠ 0) : (0 < fn → VF fd fn ∧ qf fd fn = (qf fn fd)⁻¹) ∧ (fn < 0 → VF (-fd) (-fn) ∧ qf (-fd) (-fn) = (qf fn fd)⁻¹) := by
  obtain ⟨h1, h2, h3, h4, h5⟩ := h
  have hn : fn.natAbs ≠ 0 := by omega
  have hd : fd.toNat ≠ 0 := by omega
  have hd2 : fd.natAbs = fd.toNat := by omega
  refine ⟨fun hp => ⟨⟨by omega, by omega, by omega, by omega, ?_⟩, ?_⟩, fun hp => ⟨⟨by omega, by omega, by omega, by omega, ?_⟩, ?_⟩⟩
  · rw [hd2, show fn.toNat = fn.natAbs by omega, Nat.gcd_comm]; exact h5
  · unfold qf
    rw [decide_eq_false (show ¬ fd < 0 by omega), decide_eq_false (show ¬ fn < 0 by omega), hd2, show fn.toNat = fn.natAbs by omega]
    exact qv_inv false hn hd
  · rw [show (-fd).natAbs = fd.toNat by omega, show (-fn).toNat = fn.natAbs by omega, Nat.gcd_comm]; exact h5
  · unfold qf
    rw [decide_eq_true (show -fd < 0 by omega), decide_eq_true (show fn < 0 by omega), show (-fd).natAbs = fd.toNat by omega, show (-fn).toNat = fn.natAbs by omega]
    exact qv_inv true hn hd
set_option maxHeartbeats 1000000 in
set_option maxRecDepth 100000 in
theorem over_any {q : Rat} {m : Nat} {v : Value} (w : World) (hv : IsW w q m v) (hq : q ≠ 0) (h2 : 2 ≤ m) : Calls Tryz.prog 149 #[v] w (WRet q⁻¹ m w) := by
  obtain ⟨s, A1, k1, c1, A2, k2, c2, fine, fn, fd, n, d, rfl, hp⟩ := hv
  obtain ⟨W2, hW2⟩ : ∃ W2, W2 = (w.alloc (.cells #[.bool s, .slice A1 k1 c1, .slice A2 k2 c2, .bool fine, .int .i64 fn, .int .i64 fd] 81)).alloc (.cells #[.bool false, .slice none 0 0, .slice none 0 0, .bool false, .int .i64 0, .int .i64 0] 81) := ⟨_, rfl⟩
  have K0 : Hid (Blk W2 w.heap.size 81 #[.bool s, .slice A1 k1 c1, .slice A2 k2 c2, .bool fine, .int .i64 fn, .int .i64 fd]) := Lib.hid (by rw [hW2]; exact (Blk.new w _ _).alloc _)
  have KR : Hid (Blk W2 (w.heap.size + 1) 81 #[.bool false, .slice none 0 0, .slice none 0 0, .bool false, .int .i64 0, .int .i64 0]) := Lib.hid (by rw [hW2]; exact Blk.newAt _ _ (by simp))
  have hb2 : Below w.heap.size w W2 := by rw [hW2]; exact ((Below.refl _ _).alloc (Nat.le_refl _) _).alloc (by simp) _
  have HB := Lib.hid hb2
  have HP := Lib.hid (hp.below hb2)
  have HW := Lib.hid hW2
  have HZ := Lib.hid (hp.zero.1)
  clear hW2 hb2 hp
  cases fine with
  | false =>
    have hn : n ≠ 0 := fun e => hq (HZ.out.1 e)
    have HPI : Hid (Parts W2 q⁻¹ m s (.slice A2 k2 c2) (.slice A1 k1 c1) false 0 0 d n) := Lib.hid ⟨HP.out.den, HP.out.num, by omega, by rw [← HP.out.val]; exact qv_inv s hn (by have := HP.out.pos; omega), HP.out.ld, HP.out.ln, fun e => by cases e⟩
    clear HP HZ hn hq
    generalize q⁻¹ = r at *
    go_enter Tryz.func149, Tryz.ntmps149
    have x0 := K0.out.at 0 (v := .bool s) rfl
    have x1 := K0.out.at 1 (v := .slice A1 k1 c1) rfl
    have x2 := K0.out.at 2 (v := .slice A2 k2 c2) rfl
    have x3 := K0.out.at 3 (v := .bool false) rfl
    go_upto_region 1 with (fail)
    rw [← HW.out]
    have z0 := (KR.out).frz 0
    have z1 := (KR.out).frz 1
    have z2 := (KR.out).frz 2
    have z3 := (KR.out).frz 3
    have z4 := (KR.out).frz 4
    have z5 := (KR.out).frz 5
    have r0 := (KR.out).at 0 (v := .bool false) rfl
    have r1 := (KR.out).at 1 (v := .slice none 0 0) rfl
    have r2 := (KR.out).at 2 (v := .slice none 0 0) rfl
    have r3 := (KR.out).at 3 (v := .bool false) rfl
    have r4 := (KR.out).at 4 (v := .int .i64 0) rfl
    have r5 := (KR.out).at 5 (v := .int .i64 0) rfl
    have SS := put6_blk (KR.out) (.bool s) (.slice A2 k2 c2) (.slice A1 k1 c1) (.bool false) (.int .i64 0) (.int .i64 0)
    unfold put6 at SS
    have s0 := SS.at 0 rfl
    have s1 := SS.at 1 rfl
    have s2 := SS.at 2 rfl
    have s3 := SS.at 3 rfl
    have s4 := SS.at 4 rfl
    have s5 := SS.at 5 rfl
    have HFIN := Lib.hid (WRet.put (HPI.out) (KR.out) (HB.out) (Nat.le_succ _))
    clear SS
    unfold put6 at HFIN
    go_wp2
    refine bodyPost_ret (v := .agg #[.bool s, .slice A2 k2 c2, .slice A1 k1 c1, .bool false, .int .i64 0, .int .i64 0]) (by simp [results, Tryz.results149, go_sem, s0, s1, s2, s3, s4, s5]) rfl ?_
    exact HFIN.out
  | true =>
    obtain ⟨hvf, hqf, _, _⟩ := HP.out.small rfl
    have hf0 : fn ≠ 0 := fun e => by
      subst e
      apply hq
      rw [← hqf]
      unfold qf
      exact qv_zero _ _
    obtain ⟨i1, i2⟩ := inv_vf hvf hf0
    rw [hqf] at i1 i2
    have hgc : Nat.gcd fd.natAbs fn.natAbs = 1 := by
      have := hvf.2.2.2.2
      rw [Nat.gcd_comm, show fd.natAbs = fd.toNat by have := hvf.1; omega]
      exact this
    have HMK : Hid (∃ gn gd, VF gn gd ∧ qf gn gd = q⁻¹ ∧ ∀ W, Calls Tryz.prog 68 #[.int .i64 fd, .int .i64 fn] W fun e w' => e = .returned (.agg #[.int .i64 gn, .int .i64 gd]) ∧ Below W.heap.size W w') := Lib.hid (by
      have b1 := hvf.1
      have b2 := hvf.2.1
      have b3 := hvf.2.2.1
      have b4 := hvf.2.2.2.1
      rcases Int.lt_or_gt_of_ne hf0 with h | h
      · refine ⟨_, _, (i2 h).1, (i2 h).2, fun W => ?_⟩
        have := fMakeN fd fn fn.natAbs (by omega) (by omega) (by omega) (by omega) (by omega) W
        rw [lowV_one (by rw [Int.natAbs_neg]; exact hgc), show ((fn.natAbs : Nat) : Int) = -fn by omega] at this
        exact this
      · refine ⟨_, _, (i1 h).1, (i1 h).2, fun W => ?_⟩
        have := fMakeG fd fn.natAbs (by omega) (by omega) (by omega) (by omega) W
        rw [lowV_one hgc, show ((fn.natAbs : Nat) : Int) = fn by omega] at this
        exact this)
    obtain ⟨gn, gd, hg1, hg2, hg3⟩ := HMK.out
    have HM := Lib.hid hg3
    have HWO := Lib.hid (fun W => wideOf_any hg1 W)
    rw [hg2] at HWO
    have HBnd := Lib.hid h2
    clear HMK hg3 hg1 hg2 i1 i2 hf0 hvf hqf hgc HP HZ hq h2
    generalize q⁻¹ = r at *
    go_enter Tryz.func149, Tryz.ntmps149
    have x3 := K0.out.at 3 (v := .bool true) rfl
    have x4 := K0.out.at 4 (v := .int .i64 fn) rfl
    have x5 := K0.out.at 5 (v := .int .i64 fd) rfl
    go_upto_region 1 with (fail)
    rw [← HW.out]
    go_wp2_with fail
    refine (HM.out _).mono ?_
    rintro e w3 ⟨rfl, hb3⟩
    have HB3 := Lib.hid (Base.Below.nextA HB.out hb3)
    have KR3 := Lib.hid (KR.out.belowS hb3)
    clear hb3 HM KR HB K0 x3 x4 x5 HW
    go_wp2_with fail
    refine (HWO.out _).mono ?_
    rintro e w4 ⟨v, rfl, hv4, hb4⟩
    obtain ⟨s', B1, j1, d1, B2, j2, d2, fine', fn', fd', nn, dd, rfl, hp4⟩ := hv4
    have HB4 := Lib.hid (Base.Below.nextA HB3.out hb4)
    have KR4 := Lib.hid (KR3.out.belowS hb4)
    have HP4 := Lib.hid (hp4.more HBnd.out)
    clear hb4 hp4 HWO KR3 HB3
    have z0 := (KR4.out).frz 0
    have z1 := (KR4.out).frz 1
    have z2 := (KR4.out).frz 2
    have z3 := (KR4.out).frz 3
    have z4 := (KR4.out).frz 4
    have z5 := (KR4.out).frz 5
    have r0 := (KR4.out).at 0 (v := .bool false) rfl
    have r1 := (KR4.out).at 1 (v := .slice none 0 0) rfl
    have r2 := (KR4.out).at 2 (v := .slice none 0 0) rfl
    have r3 := (KR4.out).at 3 (v := .bool false) rfl
    have r4 := (KR4.out).at 4 (v := .int .i64 0) rfl
    have r5 := (KR4.out).at 5 (v := .int .i64 0) rfl
    have SS := put6_blk (KR4.out) (.bool s') (.slice B1 j1 d1) (.slice B2 j2 d2) (.bool fine') (.int .i64 fn') (.int .i64 fd')
    unfold put6 at SS
    have s0 := SS.at 0 rfl
    have s1 := SS.at 1 rfl
    have s2 := SS.at 2 rfl
    have s3 := SS.at 3 rfl
    have s4 := SS.at 4 rfl
    have s5 := SS.at 5 rfl
    have HFIN := Lib.hid (WRet.put (HP4.out) (KR4.out) (HB4.out) (Nat.le_succ _))
    clear SS
    unfold put6 at HFIN
    go_wp2
    refine bodyPost_ret (v := .agg #[.bool s', .slice B1 j1 d1, .slice B2 j2 d2, .bool fine', .int .i64 fn', .int .i64 fd']) (by simp [results, Tryz.results149, go_sem, s0, s1, s2, s3, s4, s5]) rfl ?_
    exact HFIN.out
end Go.Proofs.YtionognmgcabbaaGreat.Wide
/- The reference: small laws for the solver: sizes behind lowest terms, a copied row. -/
namespace Go.Proofs.YtionognmgcabbaaGreat.Wide
open Go.RowKit Go.Proofs.YtionognmgcabbaaGreat Go.Proofs.YtionognmgcabbaaGreat.Base Go.Proofs.YtionognmgcabbaaGreat.Mem Go.Proofs.YtionognmgcabbaaGreat.RatM Go.Proofs.YtionognmgcabbaaGreat.BigM Go.Proofs.YtionognmgcabbaaGreat.Big Go.Proofs.YtionognmgcabbaaGreat.Fine Go.Proofs.YtionognmgcabbaaGreat.Blk Go.Proofs.YtionognmgcabbaaGreat.GaussM
open Go.Proofs.YtionognmgcabbaaGreat.Ratio (Stg solB solX sN sol_yes sol_no)
set_option linter.unusedVariables false
theorem infoWW : (Tryz.prog.info? 93).map (fun i => (i.zero, i.size, i.bytes)) = some (some (.slice none 0 0), 1, 24) := by kernel_rfl
/-- how many digits there are at stage k -/
def mD : Nat → Nat
  | 0 => 5
  | k + 1 => 4 * mD k + 1
theorem pow_nextD (m : Nat) : 2 * (D30 ^ m * (D30 ^ m * (D30 ^ m * D30 ^ m))) ≤ D30 ^ (4 * m + 1) := by
  have e : D30 ^ (4 * m + 1) = D30 * (D30 ^ m * (D30 ^ m * (D30 ^ m * D30 ^ m))) := by
    rw [Nat.pow_succ, Nat.mul_comm _ D30, show 4 * m = m + (m + (m + m)) by omega, Nat.pow_add, Nat.pow_add, Nat.pow_add]
  rw [e]
  exact Nat.mul_le_mul_right _ (by decide)
theorem mD_up : ∀ {a b : Nat}, a ≤ b → mD a ≤ mD b
  | a, 0, h => by
    obtain rfl : a = 0 := by omega
    exact Nat.le_refl _
  | a, b + 1, h => by
    rcases Nat.lt_or_ge a (b + 1) with h1 | h1
    · have := mD_up (show a ≤ b by omega)
      show mD a ≤ 4 * mD b + 1
      omega
    · obtain rfl : a = b + 1 := by omega
      exact Nat.le_refl _
theorem D30_pos : 0 < D30 := by decide
theorem dgD_more {m k : Nat} {q : Rat} (h : Dg (D30 ^ m) q) (hk : m ≤ k) : Dg (D30 ^ k) q := h.more (Nat.pow_le_pow_right D30_pos hk)
theorem dgD_mul {m k : Nat} {q r : Rat} (h : Dg (D30 ^ m) q) (g : Dg (D30 ^ k) r) : Dg (D30 ^ (m + k)) (q * r) := by
  rw [Nat.pow_add]; exact h.mul g
theorem IsW.parts {w : World} {q : Rat} {m : Nat} {s fi : Bool} {A1 A2 : Option Addr} {k1 c1 k2 c2 : Nat} {fn fd : Int} (h : IsW w q m (.agg #[.bool s, .slice A1 k1 c1, .slice A2 k2 c2, .bool fi, .int .i64 fn, .int .i64 fd])) : ∃ nn dd, Parts w q m s (.slice A1 k1 c1) (.slice A2 k2 c2) fi fn fd nn dd := by
  obtain ⟨s', B1, j1, d1, B2, j2, d2, fi', fn', fd', nn, dd, e, hp⟩ := h
  injection e with e
  simp only [Array.mk.injEq, List.cons.injEq, Value.slice.injEq, Value.bool.injEq, Value.int.injEq, true_and, and_true] at e
  obtain ⟨rfl, ⟨rfl, rfl, rfl⟩, ⟨rfl, rfl, rfl⟩, rfl, rfl, rfl⟩ := e
  exact ⟨nn, dd, hp⟩
theorem rat_sub (a b d : Rat) : a + -1 * b * d = a - b * d := by grind
theorem rat_zero (a : Rat) : 0 * a = 0 := by grind
/-- in lowest terms the digits are those of the rational -/
theorem IsL.le {w : World} {q : Rat} {m k : Nat} {v : Value} (h : IsL w q m v) (hk : Dg (D30 ^ k) q) : IsW w q k v := by
  obtain ⟨s, A1, k1, c1, A2, k2, c2, fine, fn, fd, n, d, e, hp, h1, h2⟩ := h
  subst h1 h2
  exact ⟨s, A1, k1, c1, A2, k2, c2, fine, fn, fd, _, _, e, hp.num, hp.den, hp.pos, hp.val, bigL_len_le hk.1, bigL_len_le hk.2, hp.small⟩
theorem len_zero {w : World} {q : Rat} {m : Nat} {s fine : Bool} {A1 : Option Addr} {k1 c1 : Nat} {vd : Value} {fn fd : Int} {n d : Nat} (h : Parts w q m s (.slice A1 k1 c1) vd fine fn fd n d) : k1 = 0 ↔ q = 0 := by
  obtain ⟨A, c, e, _⟩ := Dig.form h.num
  injection e with _ e _
  rw [← h.zero.1, e]
  constructor
  · intro h0
    rcases Nat.eq_zero_or_pos n with hn | hn
    · exact hn
    · rw [bigL_pos (by omega)] at h0; cases h0
  · intro h0
    subst h0
    rw [bigL_zero]; rfl
theorem six_take {cs : Array Value} {i : Nat} {v0 v1 v2 v3 v4 v5 : Value} (x0 : cs[i * 6]? = some v0) (x1 : cs[i * 6 + 1]? = some v1) (x2 : cs[i * 6 + 2]? = some v2) (x3 : cs[i * 6 + 3]? = some v3) (x4 : cs[i * 6 + 4]? = some v4) (x5 : cs[i * 6 + 5]? = some v5) {N : Nat} (hN : i * 6 + 6 ≤ N) : ((cs.toList.take N).drop (i * 6)).take 6 = [v0, v1, v2, v3, v4, v5] := by
  apply List.ext_getElem?
  intro j
  rw [List.getElem?_take]
  by_cases hj : j < 6
  · rw [if_pos hj, List.getElem?_drop, List.getElem?_take, if_pos (by omega), Array.getElem?_toList]
    have : j = 0 ∨ j = 1 ∨ j = 2 ∨ j = 3 ∨ j = 4 ∨ j = 5 := by omega
    rcases this with rfl | rfl | rfl | rfl | rfl | rfl <;> assumption
  · rw [if_neg hj, List.getElem?_eq_none (by simp; omega)]
/-- the cells of a row -/
def rowC (cs : Array Value) (L : Nat) : List Value := cs.toList.take (L * 6)
theorem rowC_len {w : World} {g L m : Nat} {f : Nat → Rat} {cs : Array Value} (h : RowV w g L f m cs) : (rowC cs L).length = L * 6 := by
  unfold rowC
  have := h.size
  simp
  omega
theorem rowC_news {w : World} {g L m : Nat} {f : Nat → Rat} {cs : Array Value} (h : RowV w g L f m cs) : ∀ (j : Nat) (u : Value), (rowC cs L)[j]? = some u → w.cell? ((⟨g, 0, none⟩ : Addr).add j) = some u := by
  intro j u hu
  unfold rowC at hu
  rw [List.getElem?_take] at hu
  split at hu
  · rw [Addr.add_lit, Nat.zero_add, h.blk.cell, ← Array.getElem?_toList]; exact hu
  · cases hu
theorem rowC_ones {w : World} {g L m : Nat} {f : Nat → Rat} {cs : Array Value} (h : RowV w g L f m cs) : ∀ u ∈ rowC cs L, u.oneCell' = true := by
  intro u hu
  obtain ⟨j, hj⟩ := List.getElem?_of_mem hu
  unfold rowC at hj
  rw [List.getElem?_take] at hj
  split at hj
  · rename_i hlt
    rw [Array.getElem?_toList] at hj
    have hi : j / 6 < L := by omega
    obtain ⟨s, A1, k1, c1, A2, k2, c2, fine, fn, fd, nn, dd, x0, x1, x2, x3, x4, x5, hp⟩ := h.els (j / 6) hi
    have hr : j = j / 6 * 6 ∨ j = j / 6 * 6 + 1 ∨ j = j / 6 * 6 + 2 ∨ j = j / 6 * 6 + 3 ∨ j = j / 6 * 6 + 4 ∨ j = j / 6 * 6 + 5 := by omega
    generalize j / 6 = i at *
    rcases hr with rfl | rfl | rfl | rfl | rfl | rfl
    · rw [x0] at hj; injection hj with hj; subst hj; rfl
    · rw [x1] at hj; injection hj with hj; subst hj; rfl
    · rw [x2] at hj; injection hj with hj; subst hj; rfl
    · rw [x3] at hj; injection hj with hj; subst hj; rfl
    · rw [x4] at hj; injection hj with hj; subst hj; rfl
    · rw [x5] at hj; injection hj with hj; subst hj; rfl
  · cases hj
/-- the cells of a row, appended to nothing -/
theorem RowV.copied {w w' : World} {g L m B n0 B0 : Nat} {f : Nat → Rat} {cs : Array Value} {v0 v : Value} {xs0 : List Value} (h : RowV w g L f m cs) (h0 : w.ownsRow B0 81 6 v0 n0 xs0) (hown : w'.ownsRow B 81 6 v L (rowC cs L)) (hg : w.grownBy w' v0.ownBlock) : OwnW w' B v L f m (rowC cs L) :=
  ⟨hown, fun i hi => by
    obtain ⟨s, A1, k1, c1, A2, k2, c2, fine, fn, fd, nn, dd, x0, x1, x2, x3, x4, x5, hp⟩ := h.els i hi
    exact ⟨s, A1, k1, c1, A2, k2, c2, fine, fn, fd, nn, dd, six_take x0 x1 x2 x3 x4 x5 (by omega), hp.kept h0 (by decide) hg⟩⟩
/-- the only solution is returned, if there is one -/
def SwRet (M : Nat → Nat → Rat) (n m : Nat) (w : World) (e : Ending) (w' : World) : Prop := ∃ v cs, e = .returned (.tuple #[v, .bool (solB M n n)]) ∧ OwnW w' w.heap.size v (sN M n n) (solX M n n) m cs ∧ Below w.heap.size w w'
theorem sw_no {M : Nat → Nat → Rat} {n m : Nat} {w w' : World} (h : ∀ x, ¬ Only M n n x) (hb : Below w.heap.size w w') : SwRet M n m w (.returned (.tuple #[.slice none 0 0, .bool false])) w' := by
  have h1 := sol_no h
  refine ⟨.slice none 0 0, [], by rw [h1], ?_, hb⟩
  unfold sN
  rw [h1]
  exact OwnW.nil _ _ _ _
theorem sw_yes {M : Nat → Nat → Rat} {n m : Nat} {w w' : World} {x : Nat → Rat} {v : Value} {cs : List Value} (h : Only M n n x) (ho : OwnW w' w.heap.size v n x m cs) (hb : Below w.heap.size w w') : SwRet M n m w (.returned (.tuple #[v, .bool true])) w' := by
  obtain ⟨h1, h2⟩ := sol_yes h
  refine ⟨v, cs, by rw [h1], ?_, hb⟩
  unfold sN
  rw [h1, if_pos rfl]
  exact ho.congr fun i hi => (h2 i hi).symm
end Go.Proofs.YtionognmgcabbaaGreat.Wide

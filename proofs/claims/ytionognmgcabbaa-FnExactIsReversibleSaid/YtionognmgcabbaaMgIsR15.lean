/- The reference's fractions of any size: what is small, what is given. -/
import Derived.Test.YtionognmgcabbaaMgIsR14
import Derived.Test.YtionognmgcabbaaMgIsR07
import Derived.Test.YtionognmgcabbaaMgIsR09
namespace Go.Proofs.Ytionognmgcabbaa.Wide
open Go.RowKit Go.Proofs.Ytionognmgcabbaa Go.Proofs.Ytionognmgcabbaa.Base Go.Proofs.Ytionognmgcabbaa.Mem Go.Proofs.Ytionognmgcabbaa.RatM Go.Proofs.Ytionognmgcabbaa.BigM Go.Proofs.Ytionognmgcabbaa.Big Go.Proofs.Ytionognmgcabbaa.Fine Go.Proofs.Ytionognmgcabbaa.Blk
set_option linter.unusedVariables false
theorem bigSmall_no {x : Nat} {v : Value} (w : World) (hv : IsB w x v) (hl : (bigL x).length ≤ 900000) (h : 1000000000000000000 < x) : Calls Try.prog 95 #[v] w fun e w' => e = .returned (.tuple #[.int .i64 0, .bool false]) ∧ Below w.heap.size w w' := by
  obtain ⟨A, c, rfl, _⟩ := Dig.form hv
  by_cases h2 : 2 < (bigL x).length
  · clear hv
    generalize (bigL x).length = k at *
    go_enter Try.func95, Try.ntmps95
    go_wp2
    go_ret2
    exact ⟨rfl, Below.refl _ _⟩
  · have HV := Lib.hid hv
    have HL := Lib.hid hl
    have hcm : cmpN x 1000000000000000000 = 1 := cmpN_gt h
    have hlc : (bigL 1000000000000000000).length ≤ 4000000 := Nat.le_trans (small_len (Nat.le_refl _)) (by decide)
    have HLC := Lib.hid hlc
    clear hv hl h hlc
    go_enter Try.func95, Try.ntmps95
    go_wp2_with fail
    refine (bigOf_any 1000000000000000000 (by decide) w).mono ?_
    rintro e w1 ⟨v1, rfl, h1, hb1⟩
    have H1 := Lib.hid h1
    have HB1 := Lib.hid hb1
    clear h1 hb1
    go_wp2_with fail
    refine (bigCmp_any w1 (HV.out.below HB1.out) H1.out (Nat.le_trans HL.out (by decide)) HLC.out).mono ?_
    rintro e w2 ⟨rfl, hD⟩
    have HB2 := Lib.hid (Base.Below.nextA HB1.out hD.below)
    clear hD
    rw [hcm]
    clear hcm
    go_wp2
    go_ret2
    exact ⟨rfl, HB2.out⟩
/-- the number so far -/
def SmRel (x : Nat) (nv iv : Value) : Prop := ∃ i : Nat, i ≤ (bigL x).length ∧ iv = .int .i64 ((i : Int) - 1) ∧ nv = .int .i64 ((x / D30 ^ i : Nat) : Int)
set_option maxHeartbeats 2000000 in
set_option maxRecDepth 100000 in
theorem bigSmall_yes {x : Nat} {v : Value} (w : World) (hv : IsB w x v) (h : x ≤ 1000000000000000000) : Calls Try.prog 95 #[v] w fun e w' => e = .returned (.tuple #[.int .i64 (x : Int), .bool true]) ∧ Below w.heap.size w w' := by
  obtain ⟨A, c, rfl, _⟩ := Dig.form hv
  have hl2 := small_len h
  have HV := Lib.hid hv
  have hcm : ¬ 0 < cmpN x 1000000000000000000 := by
    unfold cmpN
    split
    · decide
    · rw [if_neg (by omega)]; decide
  have hlc : (bigL 1000000000000000000).length ≤ 4000000 := Nat.le_trans (small_len (Nat.le_refl _)) (by decide)
  have HLC := Lib.hid hlc
  have HX := Lib.hid h
  have hd0 : x / D30 ^ (bigL x).length = 0 := Nat.div_eq_of_lt (big_lt_pow x)
  have HD0 := Lib.hid hd0
  have hn2 : ¬ 2 < (bigL x).length := by omega
  clear hv hlc h hd0
  generalize hcme : cmpN x 1000000000000000000 = cm at *
  have HCM := Lib.hid hcme
  clear hcme
  go_enter Try.func95, Try.ntmps95
  go_wp2_with fail
  refine (bigOf_any 1000000000000000000 (by decide) w).mono ?_
  rintro e w1 ⟨v1, rfl, h1, hb1⟩
  have H1 := Lib.hid h1
  have HB1 := Lib.hid hb1
  clear h1 hb1
  go_wp2_with fail
  refine (bigCmp_any w1 (HV.out.below HB1.out) H1.out (by omega) HLC.out).mono ?_
  rintro e w2 ⟨rfl, hD⟩
  have HB2 := Lib.hid (Base.Below.nextA HB1.out hD.below)
  have HV2 := Lib.hid (HV.out.below HB2.out)
  clear hD
  rw [HCM.out]
  go_wp2
  go_loop [4, 5] (fun nv iv => SmRel x nv iv) (fun _ iv => (intOf iv + 1).toNat)
  case atStart => exact ⟨(bigL x).length, Nat.le_refl _, rfl, by rw [HD0.out]; rfl⟩
  case round =>
    obtain ⟨i, hi, rfl, rfl⟩ := hrel
    by_cases hpos : 0 < i
    · obtain ⟨m, rfl⟩ : ∃ m, i = m + 1 := ⟨i - 1, by omega⟩
      have e1 : (((m + 1 : Nat) : Int) - 1) = (m : Int) := by omega
      rw [e1]
      clear e1
      obtain ⟨g, rfl, hc⟩ := IsB.cell HV2.out (show m < (bigL x).length by omega)
      have hdg := dig_at x m
      have hps := pow_succ_div x m
      have hxl := HX.out
      have hle : x / D30 ^ m ≤ x := Nat.div_le_self _ _
      obtain ⟨N, hN⟩ : ∃ N, N = x / D30 ^ m := ⟨_, rfl⟩
      rw [← hN] at hdg hps hle
      rw [hps]
      rw [hdg] at hc
      have hn1 : N / D30 ≤ 1000000000 := by unfold D30; omega
      have hn2' : N % D30 < 1073741824 := Nat.mod_lt _ (by decide)
      have hor : bits .or .i64 (((N / D30 : Nat) : Int) * 1073741824) ((N % D30 : Nat) : Int) = (N : Int) := by
        have hh := Bits.i64_or_nat (N / D30 * 2 ^ 30) (N % D30) (by omega) (by omega)
        have e := Nat.shiftLeft_add_eq_or_of_lt (show N % D30 < 2 ^ 30 by omega) (N / D30)
        rw [Nat.shiftLeft_eq] at e
        rw [← e] at hh
        have e2 : N / D30 * 2 ^ 30 + N % D30 = N := by have := Nat.div_add_mod N D30; unfold D30 at *; omega
        rw [e2] at hh
        rw [← hh]
        congr 1
      have HN := Lib.hid (show SmRel x (.int .i64 (N : Int)) (.int .i64 ((m : Int) - 1)) from ⟨m, by omega, rfl, by rw [hN]⟩)
      clear hdg hps hN hle
      generalize N / D30 = qd at *
      generalize N % D30 = rd at *
      go_wp2
      go_round
      case rel => exact HN.out
      case measure => simp [intOf]
    · obtain rfl : i = 0 := by omega
      rw [Nat.pow_zero, Nat.div_one]
      go_wp2
      go_ret2
      exact ⟨rfl, HB2.out⟩
theorem bigSmall_any {x : Nat} {v : Value} (w : World) (hv : IsB w x v) (hl : (bigL x).length ≤ 900000) : Calls Try.prog 95 #[v] w fun e w' => (∃ i : Int, e = .returned (.tuple #[.int .i64 i, .bool (decide (x ≤ 1000000000000000000))]) ∧ (x ≤ 1000000000000000000 → i = x)) ∧ Below w.heap.size w w' := by
  rcases Nat.lt_or_ge 1000000000000000000 x with h | h
  · rw [decide_eq_false (by omega)]
    exact (bigSmall_no w hv hl h).mono fun e w' ⟨h1, h2⟩ => ⟨⟨0, h1, fun h' => absurd h' (by omega)⟩, h2⟩
  · rw [decide_eq_true h]
    exact (bigSmall_yes w hv h).mono fun e w' ⟨h1, h2⟩ => ⟨⟨x, h1, fun _ => rfl⟩, h2⟩
end Go.Proofs.Ytionognmgcabbaa.Wide
/- The reference's fractions of any size: what is given, the zero. -/
namespace Go.Proofs.Ytionognmgcabbaa.Wide
open Go.RowKit Go.Proofs.Ytionognmgcabbaa Go.Proofs.Ytionognmgcabbaa.Base Go.Proofs.Ytionognmgcabbaa.Mem Go.Proofs.Ytionognmgcabbaa.RatM Go.Proofs.Ytionognmgcabbaa.BigM Go.Proofs.Ytionognmgcabbaa.Big Go.Proofs.Ytionognmgcabbaa.Fine Go.Proofs.Ytionognmgcabbaa.Blk
set_option linter.unusedVariables false
theorem zero_any (w : World) : Calls Try.prog 76 #[] w fun e w' => e = .returned (.agg #[.int .i64 0, .int .i64 1]) ∧ Below w.heap.size w w' := by
  go_enter Try.func76, Try.ntmps76
  go_wp2
  exact bodyPost_ret (v := .agg #[.int .i64 0, .int .i64 1]) (by simp [results, Try.results76, go_sem]) rfl ⟨rfl, (Below.refl _ _).alloc (Nat.le_refl _) _⟩
set_option maxHeartbeats 4000000 in
set_option maxRecDepth 100000 in
theorem give_any {q : Rat} {m : Nat} {v : Value} (w : World) (hv : IsW w q m v) (hm : m ≤ 400000) : Calls Try.prog 65 #[v] w (FRet q w) := by
  have HV := Lib.hid hv
  obtain ⟨s, A1, k1, c1, A2, k2, c2, fine, fn, fd, n, d, rfl, hp⟩ := hv
  have HP := Lib.hid hp
  obtain ⟨W2, hW2⟩ : ∃ W2, W2 = (w.alloc (.cells #[.bool s, .slice A1 k1 c1, .slice A2 k2 c2, .bool fine, .int .i64 fn, .int .i64 fd] 65)).alloc (.cells #[.int .i64 0, .int .i64 0] 63) := ⟨_, rfl⟩
  have K0 : Hid (Blk W2 w.heap.size 65 #[.bool s, .slice A1 k1 c1, .slice A2 k2 c2, .bool fine, .int .i64 fn, .int .i64 fd]) := Lib.hid (by rw [hW2]; exact (Blk.new w _ _).alloc _)
  have KR : Hid (Blk W2 (w.heap.size + 1) 63 #[.int .i64 0, .int .i64 0]) := Lib.hid (by rw [hW2]; exact Blk.newAt _ _ (by simp))
  have HB : Hid (Below w.heap.size w W2) := Lib.hid (by rw [hW2]; exact ((Below.refl _ _).alloc (Nat.le_refl _) _).alloc (by simp) _)
  have HW := Lib.hid hW2
  clear hW2 hp
  have x0 := K0.out.at 0 (v := .bool s) rfl
  have x1 := K0.out.at 1 (v := .slice A1 k1 c1) rfl
  have x2 := K0.out.at 2 (v := .slice A2 k2 c2) rfl
  have x3 := K0.out.at 3 (v := .bool fine) rfl
  have x4 := K0.out.at 4 (v := .int .i64 fn) rfl
  have x5 := K0.out.at 5 (v := .int .i64 fd) rfl
  go_enter Try.func65, Try.ntmps65
  go_upto_region 1 with (fail)
  rw [← HW.out]
  clear HW
  cases fine with
  | true =>
    have HE : Hid (numQ q = fn ∧ denQ q = fd ∧ smallQ q = true) := Lib.hid (by
      obtain ⟨h1, h2, _, _⟩ := HP.out.small rfl
      obtain ⟨g1, g2, _⟩ := h1.num
      have h3 := h1.small
      rw [h2] at g1 g2 h3
      obtain ⟨t1, t2⟩ := small_true h3
      obtain ⟨_, e1, e2⟩ := RatM.small_yes t1 t2
      exact ⟨by rw [e1, g1], by rw [e2, g2], h3⟩)
    clear HV
    have z0 := KR.out.frz 0
    have z1 := KR.out.frz 1
    have c0 := KR.out.at 0 (v := .int .i64 0) rfl
    have c1 := KR.out.at 1 (v := .int .i64 0) rfl
    have SS := (KR.out.setTo 0 (.int .i64 fn) rfl).setTo 1 (.int .i64 fd) rfl
    have s0 := SS.at 0 rfl
    have s1 := SS.at 1 rfl
    clear SS
    go_wp2
    refine bodyPost_ret (v := .tuple #[.agg #[.int .i64 fn, .int .i64 fd], .bool true]) (by simp [results, Try.results65, go_sem, s0, s1]) rfl ⟨by rw [HE.out.1, HE.out.2.1, HE.out.2.2], (HB.out.setCell (by simp) _).setCell (by simp) _⟩
  | false =>
    have hl := lowest_any W2 (HV.out.below HB.out) hm
    have HL := Lib.hid hl
    clear hl
    go_wp2_with fail
    refine HL.out.mono ?_
    rintro e w3 ⟨v, rfl, hv, hb3⟩
    obtain ⟨s', B1, j1, e1, B2, j2, e2, fi, gn, gd, n', d', rfl, hp', hn', hd'⟩ := hv
    clear HL HV HP x0 x1 x2 x3 x4 x5 K0
    replace KR := Lib.hid (KR.out.belowS hb3)
    replace HB := Lib.hid (Base.Below.nextA HB.out hb3)
    have HP := Lib.hid hp'
    have HND := Lib.hid (And.intro hn' hd')
    clear hp' hb3 hn' hd'
    go_upto_region 4 with (fail)
    obtain ⟨W4, hW4⟩ : ∃ W4, W4 = w3.alloc (.cells #[.bool s', .slice B1 j1 e1, .slice B2 j2 e2, .bool fi, .int .i64 gn, .int .i64 gd] 65) := ⟨_, rfl⟩
    rw [← hW4]
    have K4 : Hid (Blk W4 w3.heap.size 65 #[.bool s', .slice B1 j1 e1, .slice B2 j2 e2, .bool fi, .int .i64 gn, .int .i64 gd]) := Lib.hid (by rw [hW4]; exact Blk.new w3 _ _)
    replace KR : Hid (Blk W4 (w.heap.size + 1) 63 #[.int .i64 0, .int .i64 0]) := Lib.hid (by rw [hW4]; exact KR.out.alloc _)
    have hb4 : Below w3.heap.size w3 W4 := by rw [hW4]; exact (Below.refl _ _).alloc (Nat.le_refl _) _
    replace HB := Lib.hid (Base.Below.nextA HB.out hb4)
    replace HP := Lib.hid (HP.out.below hb4)
    clear hW4 hb4
    have y1 := K4.out.at 1 (v := .slice B1 j1 e1) rfl
    go_wp2_with fail
    refine (bigSmall_any W4 HP.out.num (Nat.le_trans HP.out.ln (by omega))).mono ?_
    rintro e w5 ⟨⟨i1, rfl, hi1⟩, hb5⟩
    replace K4 := Lib.hid (K4.out.belowS hb5)
    replace KR := Lib.hid (KR.out.belowS hb5)
    replace HB := Lib.hid (Base.Below.nextA HB.out hb5)
    replace HP := Lib.hid (HP.out.below hb5)
    have HI1 := Lib.hid hi1
    clear y1 hb5 hi1
    have y2 := K4.out.at 2 (v := .slice B2 j2 e2) rfl
    generalize ho1 : decide (n' ≤ 1000000000000000000) = o1 at *
    have HO1 := Lib.hid ho1
    clear ho1
    go_wp2_with fail
    refine (bigSmall_any w5 HP.out.den (Nat.le_trans HP.out.ld (by omega))).mono ?_
    rintro e w6 ⟨⟨i2, rfl, hi2⟩, hb6⟩
    replace K4 := Lib.hid (K4.out.belowS hb6)
    replace KR := Lib.hid (KR.out.belowS hb6)
    replace HB := Lib.hid (Base.Below.nextA HB.out hb6)
    replace HP := Lib.hid (HP.out.below hb6)
    have HI2 := Lib.hid hi2
    clear y2 hb6 hi2
    have y0 := K4.out.at 0 (v := .bool s') rfl
    generalize ho2 : decide (d' ≤ 1000000000000000000) = o2 at *
    have HO2 := Lib.hid ho2
    clear ho2
    cases o1 with
    | false =>
      have HE : Hid (numQ q = 0 ∧ denQ q = 0 ∧ smallQ q = false) := Lib.hid (by
        obtain ⟨g1, g2, g3⟩ := RatM.small_no (q := q) (.inl (by rw [← HND.out.1]; exact of_decide_eq_false HO1.out))
        exact ⟨g2, g3, g1⟩)
      cases o2 with
      | false =>
        have z0 := KR.out.frz 0
        have z1 := KR.out.frz 1
        have c0 := KR.out.at 0 (v := .int .i64 0) rfl
        have c1 := KR.out.at 1 (v := .int .i64 0) rfl
        have SS := (KR.out.setTo 0 (.int .i64 0) rfl).setTo 1 (.int .i64 0) rfl
        have s0 := SS.at 0 rfl
        have s1 := SS.at 1 rfl
        clear SS
        go_wp2
        refine bodyPost_ret (v := .tuple #[.agg #[.int .i64 0, .int .i64 0], .bool false]) (by simp [results, Try.results65, go_sem, s0, s1]) rfl ⟨by rw [HE.out.1, HE.out.2.1, HE.out.2.2], (HB.out.setCell (by simp) _).setCell (by simp) _⟩
      | true =>
        have z0 := KR.out.frz 0
        have z1 := KR.out.frz 1
        have c0 := KR.out.at 0 (v := .int .i64 0) rfl
        have c1 := KR.out.at 1 (v := .int .i64 0) rfl
        have SS := (KR.out.setTo 0 (.int .i64 0) rfl).setTo 1 (.int .i64 0) rfl
        have s0 := SS.at 0 rfl
        have s1 := SS.at 1 rfl
        clear SS
        go_wp2
        refine bodyPost_ret (v := .tuple #[.agg #[.int .i64 0, .int .i64 0], .bool false]) (by simp [results, Try.results65, go_sem, s0, s1]) rfl ⟨by rw [HE.out.1, HE.out.2.1, HE.out.2.2], (HB.out.setCell (by simp) _).setCell (by simp) _⟩
    | true =>
      cases o2 with
      | false =>
        have HE : Hid (numQ q = 0 ∧ denQ q = 0 ∧ smallQ q = false) := Lib.hid (by
          obtain ⟨g1, g2, g3⟩ := RatM.small_no (q := q) (.inr (by rw [← HND.out.2]; exact of_decide_eq_false HO2.out))
          exact ⟨g2, g3, g1⟩)
        have z0 := KR.out.frz 0
        have z1 := KR.out.frz 1
        have c0 := KR.out.at 0 (v := .int .i64 0) rfl
        have c1 := KR.out.at 1 (v := .int .i64 0) rfl
        have SS := (KR.out.setTo 0 (.int .i64 0) rfl).setTo 1 (.int .i64 0) rfl
        have s0 := SS.at 0 rfl
        have s1 := SS.at 1 rfl
        clear SS
        go_wp2
        refine bodyPost_ret (v := .tuple #[.agg #[.int .i64 0, .int .i64 0], .bool false]) (by simp [results, Try.results65, go_sem, s0, s1]) rfl ⟨by rw [HE.out.1, HE.out.2.1, HE.out.2.2], (HB.out.setCell (by simp) _).setCell (by simp) _⟩
      | true =>
        have t1 := of_decide_eq_true HO1.out
        have t2 := of_decide_eq_true HO2.out
        have k1 := HI1.out t1
        have k2 := HI2.out t2
        have hl0 : 0 ≤ i1 := by omega
        have hl1 : i1 ≤ 1000000000000000000 := by omega
        have hval := HP.out.val
        have HEE : Hid (numQ q = (if s' then -i1 else i1) ∧ denQ q = i2 ∧ smallQ q = true) := Lib.hid (by
          obtain ⟨g1, g2, g3⟩ := RatM.small_yes (q := q) (by rw [← HND.out.1]; exact t1) (by rw [← HND.out.2]; exact t2)
          have hg : Nat.gcd n' d' = 1 := by rw [HND.out.1, HND.out.2]; exact q.reduced
          obtain ⟨l1, l2⟩ := low_of (s := s') (n := n') (d := d') (Nat.ne_of_gt HP.out.pos) hg
          rw [hval] at l1 l2
          exact ⟨by rw [g2, l1, k1], by rw [g3, l2, k2], g1⟩)
        clear t1 t2 k1 k2 hval
        cases s' with
        | true =>
          have HE : Hid (numQ q = -i1 ∧ denQ q = i2 ∧ smallQ q = true) := HEE
          clear HEE
          have z0 := KR.out.frz 0
          have z1 := KR.out.frz 1
          have c0 := KR.out.at 0 (v := .int .i64 0) rfl
          have c1 := KR.out.at 1 (v := .int .i64 0) rfl
          have SS := (KR.out.setTo 0 (.int .i64 (-i1)) rfl).setTo 1 (.int .i64 i2) rfl
          have s0 := SS.at 0 rfl
          have s1 := SS.at 1 rfl
          clear SS
          go_wp2
          refine bodyPost_ret (v := .tuple #[.agg #[.int .i64 (-i1), .int .i64 i2], .bool true]) (by simp [results, Try.results65, go_sem, s0, s1]) rfl ⟨by rw [HE.out.1, HE.out.2.1, HE.out.2.2], (HB.out.setCell (by simp) _).setCell (by simp) _⟩
        | false =>
          have HE : Hid (numQ q = i1 ∧ denQ q = i2 ∧ smallQ q = true) := HEE
          clear HEE
          have z0 := KR.out.frz 0
          have z1 := KR.out.frz 1
          have c0 := KR.out.at 0 (v := .int .i64 0) rfl
          have c1 := KR.out.at 1 (v := .int .i64 0) rfl
          have SS := (KR.out.setTo 0 (.int .i64 i1) rfl).setTo 1 (.int .i64 i2) rfl
          have s0 := SS.at 0 rfl
          have s1 := SS.at 1 rfl
          clear SS
          go_wp2
          refine bodyPost_ret (v := .tuple #[.agg #[.int .i64 i1, .int .i64 i2], .bool true]) (by simp [results, Try.results65, go_sem, s0, s1]) rfl ⟨by rw [HE.out.1, HE.out.2.1, HE.out.2.2], (HB.out.setCell (by simp) _).setCell (by simp) _⟩
end Go.Proofs.Ytionognmgcabbaa.Wide
/- Lists of wide fractions in memory: six cells an element; pushing, reading. -/
namespace Go.Proofs.Ytionognmgcabbaa.Wide
open Go.RowKit Go.Proofs.Ytionognmgcabbaa Go.Proofs.Ytionognmgcabbaa.Base Go.Proofs.Ytionognmgcabbaa.Mem Go.Proofs.Ytionognmgcabbaa.RatM Go.Proofs.Ytionognmgcabbaa.BigM Go.Proofs.Ytionognmgcabbaa.Big Go.Proofs.Ytionognmgcabbaa.Fine Go.Proofs.Ytionognmgcabbaa.Blk Go.Proofs.Ytionognmgcabbaa.GaussM
set_option linter.unusedVariables false
def six (s : Bool) (vn vd : Value) (fine : Bool) (fn fd : Int) : List Value := [.bool s, vn, vd, .bool fine, .int .i64 fn, .int .i64 fd]
/-- an element of the cells cs -/
def ElW (w : World) (cs : List Value) (i : Nat) (q : Rat) (m : Nat) : Prop :=
  ∃ s A1 k1 c1 A2 k2 c2 fine fn fd n d, (cs.drop (i * 6)).take 6 = six s (.slice A1 k1 c1) (.slice A2 k2 c2) fine fn fd ∧ Parts w q m s (.slice A1 k1 c1) (.slice A2 k2 c2) fine fn fd n d
/-- the n elements of a row of the call's own are the rationals f -/
structure OwnW (w : World) (B : Nat) (v : Value) (n : Nat) (f : Nat → Rat) (m : Nat) (cs : List Value) : Prop where
  row : w.ownsRow B 65 6 v n cs
  els : ∀ i, i < n → ElW w cs i (f i) m
theorem ElW.below {w w' : World} {cs : List Value} {i m : Nat} {q : Rat} (h : ElW w cs i q m) (hb : Below w.heap.size w w') : ElW w' cs i q m := by
  obtain ⟨s, A1, k1, c1, A2, k2, c2, fine, fn, fd, n, d, e, hp⟩ := h
  exact ⟨s, A1, k1, c1, A2, k2, c2, fine, fn, fd, n, d, e, hp.below hb⟩
theorem OwnW.below {w w' : World} {B n m : Nat} {v : Value} {f : Nat → Rat} {cs : List Value} (h : OwnW w B v n f m cs) (hb : Below w.heap.size w w') : OwnW w' B v n f m cs :=
  ⟨ownsRow_below h.row hb, fun i hi => (h.els i hi).below hb⟩
theorem OwnW.form {w : World} {B n m : Nat} {v : Value} {f : Nat → Rat} {cs : List Value} (h : OwnW w B v n f m cs) : ∃ A c, v = .slice A n c ∧ (0 < n → ∃ g, A = some ⟨g, 0, none⟩ ∧ B ≤ g ∧ g < w.heap.size) := ownsRow_form h.row
theorem OwnW.more {w : World} {B n m m' : Nat} {v : Value} {f : Nat → Rat} {cs : List Value} (h : OwnW w B v n f m cs) (hm : m ≤ m') : OwnW w B v n f m' cs :=
  ⟨h.row, fun i hi => by
    obtain ⟨s, A1, k1, c1, A2, k2, c2, fine, fn, fd, n, d, e, hp⟩ := h.els i hi
    exact ⟨s, A1, k1, c1, A2, k2, c2, fine, fn, fd, n, d, e, hp.more hm⟩⟩
theorem OwnW.base {w : World} {B B' n m : Nat} {v : Value} {f : Nat → Rat} {cs : List Value} (h : OwnW w B v n f m cs) (hB : B' ≤ B) : OwnW w B' v n f m cs := ⟨ownsRow_base h.row hB, h.els⟩
theorem OwnW.congr {w : World} {B n m : Nat} {v : Value} {f f' : Nat → Rat} {cs : List Value} (h : OwnW w B v n f m cs) (hf : ∀ i, i < n → f i = f' i) : OwnW w B v n f' m cs :=
  ⟨h.row, fun i hi => by rw [← hf i hi]; exact h.els i hi⟩
/-- an element is read -/
theorem OwnW.at {w : World} {B n m c : Nat} {A : Option Addr} {f : Nat → Rat} {cs : List Value} (h : OwnW w B (.slice A n c) n f m cs) {i : Nat} (hi : i < n) :
    ∃ g s A1 k1 c1 A2 k2 c2 fine fn fd nn dd, A = some ⟨g, 0, none⟩ ∧ g < w.heap.size ∧ w.cell? ⟨g, i * 6, none⟩ = some (.bool s) ∧ w.cell? ⟨g, i * 6 + 1, none⟩ = some (.slice A1 k1 c1) ∧ w.cell? ⟨g, i * 6 + 2, none⟩ = some (.slice A2 k2 c2) ∧
      w.cell? ⟨g, i * 6 + 3, none⟩ = some (.bool fine) ∧ w.cell? ⟨g, i * 6 + 4, none⟩ = some (.int .i64 fn) ∧ w.cell? ⟨g, i * 6 + 5, none⟩ = some (.int .i64 fd) ∧ Parts w (f i) m s (.slice A1 k1 c1) (.slice A2 k2 c2) fine fn fd nn dd := by
  obtain ⟨A', c', e, hf⟩ := h.form
  injection e with e1 e2 e3
  subst e1 e3
  obtain ⟨g, rfl, _, hlt⟩ := hf (by omega)
  obtain ⟨s, A1, k1, c1, A2, k2, c2, fine, fn, fd, nn, dd, e, hp⟩ := h.els i hi
  have key : ∀ k, k < 6 → w.cell? ⟨g, i * 6 + k, none⟩ = (six s (.slice A1 k1 c1) (.slice A2 k2 c2) fine fn fd)[k]? := fun k hk => by
    rw [World.ownsRow.cellAt h.row (i * 6 + k) (by omega), ← e, List.getElem?_take, if_pos hk, List.getElem?_drop]
  exact ⟨g, s, A1, k1, c1, A2, k2, c2, fine, fn, fd, nn, dd, rfl, hlt, key 0 (by decide), key 1 (by decide), key 2 (by decide), key 3 (by decide), key 4 (by decide), key 5 (by decide), hp⟩
theorem infoW : (Try.prog.info? 65).map (fun i => (i.zero, i.size, i.bytes)) = some (some (.agg #[.bool false, .slice none 0 0, .slice none 0 0, .bool false, .int .i64 0, .int .i64 0]), 6, 80) := by kernel_rfl
theorem ones_six {s fine : Bool} {A1 A2 : Option Addr} {k1 c1 k2 c2 : Nat} {fn fd : Int} : ∀ u ∈ six s (.slice A1 k1 c1) (.slice A2 k2 c2) fine fn fd, u.oneCell' = true := by
  intro u hu
  simp only [six, List.mem_cons, List.not_mem_nil, or_false] at hu
  rcases hu with rfl | rfl | rfl | rfl | rfl | rfl <;> rfl
theorem news_six (w : World) (t : TypeId) {u0 u1 u2 u3 u4 u5 : Value} {g : Nat} (hg : g = w.heap.size) : ∀ (j : Nat) (x : Value), [u0, u1, u2, u3, u4, u5][j]? = some x → (w.alloc (.cells #[u0, u1, u2, u3, u4, u5] t)).cell? ((⟨g, 0, none⟩ : Addr).add j) = some x := by
  subst hg
  intro j x hx
  have e : (#[u0, u1, u2, u3, u4, u5] : Array Value)[j]? = some x := by rw [← Array.getElem?_toList]; exact hx
  rw [Addr.add_lit]
  exact (World.cell?_alloc_new w #[u0, u1, u2, u3, u4, u5] t (0 + j)).trans (by rw [Nat.zero_add]; exact e)
/-- digits stay as they are while a row of another type grows -/
theorem IsB.kept {w w' : World} {B size n x : Nat} {t : TypeId} {u v : Value} {xs : List Value} (h : IsB w x u) (hr : w.ownsRow B t size v n xs) (ht : t ≠ 2) (hg : w.grownBy w' v.ownBlock) : IsB w' x u :=
  World.ownsRow.kept h hg (own_ne h hr (fun e => ht e.symm))
theorem Parts.kept {w w' : World} {q : Rat} {m : Nat} {s : Bool} {vn vd : Value} {fine : Bool} {fn fd : Int} {nn dd : Nat} {B size n : Nat} {t : TypeId} {v : Value} {xs : List Value} (h : Parts w q m s vn vd fine fn fd nn dd) (hr : w.ownsRow B t size v n xs) (ht : t ≠ 2) (hg : w.grownBy w' v.ownBlock) : Parts w' q m s vn vd fine fn fd nn dd :=
  ⟨IsB.kept h.num hr ht hg, IsB.kept h.den hr ht hg, h.pos, h.val, h.ln, h.ld, h.small⟩
/-- an element is pushed -/
theorem OwnW.push {wr w1 w2 : World} {B n m : Nat} {v v' : Value} {f : Nat → Rat} {cs : List Value} {s fine : Bool} {A1 A2 : Option Addr} {k1 c1 k2 c2 nn dd : Nat} {fn fd : Int} {ca : Array Value} {t : TypeId} (h : OwnW wr B v n f m cs) (h1 : Below wr.heap.size wr w1)
    (hp : Parts w1 (f n) m s (.slice A1 k1 c1) (.slice A2 k2 c2) fine fn fd nn dd) (hown : w2.ownsRow B 65 6 v' (n + 1) (cs ++ six s (.slice A1 k1 c1) (.slice A2 k2 c2) fine fn fd)) (hg : (w1.alloc (.cells ca t)).grownBy w2 v.ownBlock) :
    OwnW w2 B v' (n + 1) f m (cs ++ six s (.slice A1 k1 c1) (.slice A2 k2 c2) fine fn fd) := by
  have hb2 : Below w1.heap.size w1 (w1.alloc (.cells ca t)) := (Below.refl _ _).alloc (Nat.le_refl _) _
  have hA := (h.below h1).below hb2
  have hlen : cs.length = n * 6 := h.row.1
  refine ⟨hown, fun i hi => ?_⟩
  rcases Nat.lt_or_ge i n with hlt | hge
  · obtain ⟨s', B1, j1, e1, B2, j2, e2, fi, gn, gd, n', d', e, hp'⟩ := hA.els i hlt
    refine ⟨s', B1, j1, e1, B2, j2, e2, fi, gn, gd, n', d', ?_, hp'.kept hA.row (by decide) hg⟩
    rw [List.drop_append_of_le_length (by omega), List.take_append_of_le_length (by rw [List.length_drop]; omega)]
    exact e
  · obtain rfl : i = n := by omega
    refine ⟨s, A1, k1, c1, A2, k2, c2, fine, fn, fd, nn, dd, ?_, (hp.below hb2).kept hA.row (by decide) hg⟩
    rw [List.drop_append, List.drop_of_length_le (by omega), hlen, Nat.sub_self]
    rfl
theorem OwnW.nil (w : World) (B : Nat) (f : Nat → Rat) (m : Nat) : OwnW w B (.slice none 0 0) 0 f m [] := ⟨World.ownsRow_nil w B _ 6, fun i hi => absurd hi (Nat.not_lt_zero i)⟩
theorem OwnW.lit0 (w : World) (f : Nat → Rat) (m : Nat) : OwnW (w.alloc (.cells #[] 65)) w.heap.size (.slice (some ⟨w.heap.size, 0, none⟩) 0 0) 0 f m [] :=
  ⟨World.ownsRow_made w #[] 0 (Nat.le_refl _) (Nat.zero_le _) (by simp), fun i hi => absurd hi (Nat.not_lt_zero i)⟩
/-- a list that is returned -/
def WsRet (n : Nat) (f : Nat → Rat) (m : Nat) (w : World) (e : Ending) (w' : World) : Prop := ∃ v cs, e = .returned v ∧ OwnW w' w.heap.size v n f m cs ∧ Below w.heap.size w w'
end Go.Proofs.Ytionognmgcabbaa.Wide
/- The reference: a matrix of wide fractions in memory, whose cells are set and whose rows change places. -/
namespace Go.Proofs.Ytionognmgcabbaa.Wide
open Go.RowKit Go.Proofs.Ytionognmgcabbaa Go.Proofs.Ytionognmgcabbaa.Base Go.Proofs.Ytionognmgcabbaa.Mem Go.Proofs.Ytionognmgcabbaa.RatM Go.Proofs.Ytionognmgcabbaa.BigM Go.Proofs.Ytionognmgcabbaa.Big Go.Proofs.Ytionognmgcabbaa.Fine Go.Proofs.Ytionognmgcabbaa.Blk Go.Proofs.Ytionognmgcabbaa.GaussM
open Go.Proofs.Ytionognmgcabbaa.Ratio (swF)
set_option linter.unusedVariables false
/-- the six cells of element i of the cells cs are a wide fraction -/
def CellW (w : World) (cs : Array Value) (i : Nat) (q : Rat) (m : Nat) : Prop := ∃ s A1 k1 c1 A2 k2 c2 fine fn fd nn dd, cs[i * 6]? = some (.bool s) ∧ cs[i * 6 + 1]? = some (.slice A1 k1 c1) ∧ cs[i * 6 + 2]? = some (.slice A2 k2 c2) ∧ cs[i * 6 + 3]? = some (.bool fine) ∧ cs[i * 6 + 4]? = some (.int .i64 fn) ∧ cs[i * 6 + 5]? = some (.int .i64 fd) ∧ Parts w q m s (.slice A1 k1 c1) (.slice A2 k2 c2) fine fn fd nn dd
/-- the block g begins with n wide fractions -/
structure RowV (w : World) (g n : Nat) (f : Nat → Rat) (m : Nat) (cs : Array Value) : Prop where
  blk : Blk w g 65 cs
  size : n * 6 ≤ cs.size
  els : ∀ i, i < n → CellW w cs i (f i) m
theorem RowV.below {w w' : World} {g n m : Nat} {f : Nat → Rat} {cs : Array Value} (h : RowV w g n f m cs) (hb : Below w.heap.size w w') : RowV w' g n f m cs :=
  ⟨h.blk.belowS hb, h.size, fun i hi => by
    obtain ⟨s, A1, k1, c1, A2, k2, c2, fine, fn, fd, nn, dd, x0, x1, x2, x3, x4, x5, hp⟩ := h.els i hi
    exact ⟨s, A1, k1, c1, A2, k2, c2, fine, fn, fd, nn, dd, x0, x1, x2, x3, x4, x5, hp.below hb⟩⟩
theorem RowV.more {w : World} {g n m m' : Nat} {f : Nat → Rat} {cs : Array Value} (h : RowV w g n f m cs) (hm : m ≤ m') : RowV w g n f m' cs :=
  ⟨h.blk, h.size, fun i hi => by
    obtain ⟨s, A1, k1, c1, A2, k2, c2, fine, fn, fd, nn, dd, x0, x1, x2, x3, x4, x5, hp⟩ := h.els i hi
    exact ⟨s, A1, k1, c1, A2, k2, c2, fine, fn, fd, nn, dd, x0, x1, x2, x3, x4, x5, hp.more hm⟩⟩
theorem RowV.congr {w : World} {g n m : Nat} {f f' : Nat → Rat} {cs : Array Value} (h : RowV w g n f m cs) (hf : ∀ i, i < n → f i = f' i) : RowV w g n f' m cs :=
  ⟨h.blk, h.size, fun i hi => by rw [← hf i hi]; exact h.els i hi⟩
/-- what was appended together -/
theorem OwnW.toV {w : World} {B g n c m : Nat} {f : Nat → Rat} {cs : List Value} (h : OwnW w B (.slice (some ⟨g, 0, none⟩) n c) n f m cs) : ∃ cur, RowV w g n f m cur := by
  obtain ⟨cur, hc, _, _⟩ := ownsRow_block h.row (g := g) rfl
  have hlen : cs.length = n * 6 := h.row.1
  have hcell : ∀ o, o < n * 6 → cur[o]? = cs[o]? := fun o ho => by
    rw [← cell_of_row w g o cur _ (0, 0) hc]
    exact World.ownsRow.cellAt h.row o (by omega)
  refine ⟨cur, hc, ?_, fun i hi => ?_⟩
  · rcases Nat.eq_zero_or_pos n with h0 | h0
    · omega
    · have := hcell (n * 6 - 1) (by omega)
      rw [List.getElem?_eq_getElem (by omega)] at this
      have := (Array.getElem?_eq_some_iff.1 this).1
      omega
  · obtain ⟨s, A1, k1, c1, A2, k2, c2, fine, fn, fd, nn, dd, e, hp⟩ := h.els i hi
    have key : ∀ k, k < 6 → cur[i * 6 + k]? = (six s (.slice A1 k1 c1) (.slice A2 k2 c2) fine fn fd)[k]? := fun k hk => by
      rw [hcell (i * 6 + k) (by omega), ← e, List.getElem?_take, if_pos hk, List.getElem?_drop]
    exact ⟨s, A1, k1, c1, A2, k2, c2, fine, fn, fd, nn, dd, key 0 (by decide), key 1 (by decide), key 2 (by decide), key 3 (by decide), key 4 (by decide), key 5 (by decide), hp⟩
/-- a row of another type grows beside -/
theorem RowV.kept {w w' : World} {g n B k m size : Nat} {f : Nat → Rat} {cs : Array Value} {v : Value} {us : List Value} {t : TypeId} (h : RowV w g n f m cs) (hr : w.ownsRow B t size v k us) (ht : t ≠ 2) (ht2 : t ≠ 65) (hg : w.grownBy w' v.ownBlock) : RowV w' g n f m cs := by
  have hne : v.ownBlock ≠ some g := fun e => by
    obtain ⟨cur, hc, _⟩ := ownsRow_block hr e
    have hb := h.blk
    unfold Blk at hb
    rw [hb] at hc
    injection hc with hc
    injection hc with _ hc _
    exact ht2 hc.symm
  refine ⟨h.blk.kept hg hne, h.size, fun i hi => ?_⟩
  obtain ⟨s, A1, k1, c1, A2, k2, c2, fine, fn, fd, nn, dd, x0, x1, x2, x3, x4, x5, hp⟩ := h.els i hi
  exact ⟨s, A1, k1, c1, A2, k2, c2, fine, fn, fd, nn, dd, x0, x1, x2, x3, x4, x5, hp.kept hr ht hg⟩
/-- six cells from o on are written -/
def put6o (w : World) (b o : Nat) (v0 v1 v2 v3 v4 v5 : Value) : World := (((((w.setCell ⟨b, o, none⟩ v0).setCell ⟨b, o + 1, none⟩ v1).setCell ⟨b, o + 2, none⟩ v2).setCell ⟨b, o + 3, none⟩ v3).setCell ⟨b, o + 4, none⟩ v4).setCell ⟨b, o + 5, none⟩ v5
theorem Parts.put6o {w : World} {q : Rat} {m b o : Nat} {s : Bool} {vn vd : Value} {fine : Bool} {fn fd : Int} {n d : Nat} {t : TypeId} {cs : Array Value} (h : Parts w q m s vn vd fine fn fd n d) (K : Blk w b t cs) (ht : t ≠ 2) (v0 v1 v2 v3 v4 v5 : Value) : Parts (Wide.put6o w b o v0 v1 v2 v3 v4 v5) q m s vn vd fine fn fd n d := by
  have K0 := K.setTo o v0 rfl
  have K1 := K0.setTo (o + 1) v1 rfl
  have K2 := K1.setTo (o + 2) v2 rfl
  have K3 := K2.setTo (o + 3) v3 rfl
  have K4 := K3.setTo (o + 4) v4 rfl
  exact (((((h.store K ht).store K0 ht).store K1 ht).store K2 ht).store K3 ht).store K4 ht
theorem put6o_below {w0 w : World} {b B o : Nat} (h : Below B w0 w) (hb : B ≤ b) (v0 v1 v2 v3 v4 v5 : Value) : Below B w0 (put6o w b o v0 v1 v2 v3 v4 v5) :=
  (((((h.setCell (p := ⟨b, o, none⟩) hb v0).setCell (p := ⟨b, o + 1, none⟩) hb v1).setCell (p := ⟨b, o + 2, none⟩) hb v2).setCell (p := ⟨b, o + 3, none⟩) hb v3).setCell (p := ⟨b, o + 4, none⟩) hb v4).setCell (p := ⟨b, o + 5, none⟩) hb v5
theorem blk_put6o {w : World} {b b' o : Nat} {t : TypeId} {cs : Array Value} (K : Blk w b' t cs) (hne : b ≠ b') (v0 v1 v2 v3 v4 v5 : Value) : Blk (put6o w b o v0 v1 v2 v3 v4 v5) b' t cs :=
  (((((K.other v0 hne).other v1 hne).other v2 hne).other v3 hne).other v4 hne).other v5 hne
def setA (cs : Array Value) (o : Nat) (v0 v1 v2 v3 v4 v5 : Value) : Array Value := (((((cs.setIfInBounds o v0).setIfInBounds (o + 1) v1).setIfInBounds (o + 2) v2).setIfInBounds (o + 3) v3).setIfInBounds (o + 4) v4).setIfInBounds (o + 5) v5
theorem setA_far {cs : Array Value} {o j : Nat} (v0 v1 v2 v3 v4 v5 : Value) (h : j < o ∨ o + 5 < j) : (setA cs o v0 v1 v2 v3 v4 v5)[j]? = cs[j]? := by
  unfold setA
  rw [Array.getElem?_setIfInBounds_ne (by omega), Array.getElem?_setIfInBounds_ne (by omega), Array.getElem?_setIfInBounds_ne (by omega), Array.getElem?_setIfInBounds_ne (by omega), Array.getElem?_setIfInBounds_ne (by omega), Array.getElem?_setIfInBounds_ne (by omega)]
theorem setA_at {cs : Array Value} {o : Nat} (v0 v1 v2 v3 v4 v5 : Value) (h : o + 5 < cs.size) : (setA cs o v0 v1 v2 v3 v4 v5)[o]? = some v0 ∧ (setA cs o v0 v1 v2 v3 v4 v5)[o + 1]? = some v1 ∧ (setA cs o v0 v1 v2 v3 v4 v5)[o + 2]? = some v2 ∧ (setA cs o v0 v1 v2 v3 v4 v5)[o + 3]? = some v3 ∧ (setA cs o v0 v1 v2 v3 v4 v5)[o + 4]? = some v4 ∧ (setA cs o v0 v1 v2 v3 v4 v5)[o + 5]? = some v5 := by
  unfold setA
  refine ⟨?_, ?_, ?_, ?_, ?_, ?_⟩
  · rw [Array.getElem?_setIfInBounds_ne (by omega), Array.getElem?_setIfInBounds_ne (by omega), Array.getElem?_setIfInBounds_ne (by omega), Array.getElem?_setIfInBounds_ne (by omega), Array.getElem?_setIfInBounds_ne (by omega), Array.getElem?_setIfInBounds_self_of_lt (by omega)]
  · rw [Array.getElem?_setIfInBounds_ne (by omega), Array.getElem?_setIfInBounds_ne (by omega), Array.getElem?_setIfInBounds_ne (by omega), Array.getElem?_setIfInBounds_ne (by omega), Array.getElem?_setIfInBounds_self_of_lt (by simp; omega)]
  · rw [Array.getElem?_setIfInBounds_ne (by omega), Array.getElem?_setIfInBounds_ne (by omega), Array.getElem?_setIfInBounds_ne (by omega), Array.getElem?_setIfInBounds_self_of_lt (by simp; omega)]
  · rw [Array.getElem?_setIfInBounds_ne (by omega), Array.getElem?_setIfInBounds_ne (by omega), Array.getElem?_setIfInBounds_self_of_lt (by simp; omega)]
  · rw [Array.getElem?_setIfInBounds_ne (by omega), Array.getElem?_setIfInBounds_self_of_lt (by simp; omega)]
  · rw [Array.getElem?_setIfInBounds_self_of_lt (by simp; omega)]
/-- an element is set -/
theorem RowV.put {w : World} {g n k m : Nat} {f : Nat → Rat} {cs : Array Value} {q : Rat} {s fine : Bool} {A1 A2 : Option Addr} {k1 c1 k2 c2 nn dd : Nat} {fn fd : Int} (h : RowV w g n f m cs) (hk : k < n) (hq : Parts w q m s (.slice A1 k1 c1) (.slice A2 k2 c2) fine fn fd nn dd) :
    RowV (put6o w g (k * 6) (.bool s) (.slice A1 k1 c1) (.slice A2 k2 c2) (.bool fine) (.int .i64 fn) (.int .i64 fd)) g n (fun i => if i = k then q else f i) m (setA cs (k * 6) (.bool s) (.slice A1 k1 c1) (.slice A2 k2 c2) (.bool fine) (.int .i64 fn) (.int .i64 fd)) := by
  have hz := h.size
  refine ⟨?_, by simp [setA]; omega, fun i hi => ?_⟩
  · exact (((((h.blk.setTo (k * 6) _ rfl).setTo (k * 6 + 1) _ rfl).setTo (k * 6 + 2) _ rfl).setTo (k * 6 + 3) _ rfl).setTo (k * 6 + 4) _ rfl).setTo (k * 6 + 5) _ rfl
  · by_cases e : i = k
    · subst e
      obtain ⟨y0, y1, y2, y3, y4, y5⟩ := setA_at (cs := cs) (o := i * 6) (.bool s) (.slice A1 k1 c1) (.slice A2 k2 c2) (.bool fine) (.int .i64 fn) (.int .i64 fd) (by omega)
      rw [if_pos rfl]
      exact ⟨s, A1, k1, c1, A2, k2, c2, fine, fn, fd, nn, dd, y0, y1, y2, y3, y4, y5, hq.put6o h.blk (by decide) _ _ _ _ _ _⟩
    · obtain ⟨s', B1, j1, e1, B2, j2, e2, fi, gn, gd, n', d', x0, x1, x2, x3, x4, x5, hp⟩ := h.els i hi
      rw [if_neg e]
      refine ⟨s', B1, j1, e1, B2, j2, e2, fi, gn, gd, n', d', ?_, ?_, ?_, ?_, ?_, ?_, hp.put6o h.blk (by decide) _ _ _ _ _ _⟩ <;> (rw [setA_far _ _ _ _ _ _ (by omega)]; assumption)
/-- another row is as it was -/
theorem RowV.beside {w : World} {g b o n m : Nat} {f : Nat → Rat} {cs cb : Array Value} {t : TypeId} (h : RowV w g n f m cs) (hb : Blk w b t cb) (ht : t ≠ 2) (hne : b ≠ g) (v0 v1 v2 v3 v4 v5 : Value) : RowV (put6o w b o v0 v1 v2 v3 v4 v5) g n f m cs :=
  ⟨blk_put6o h.blk hne _ _ _ _ _ _, h.size, fun i hi => by
    obtain ⟨s, A1, k1, c1, A2, k2, c2, fine, fn, fd, nn, dd, x0, x1, x2, x3, x4, x5, hp⟩ := h.els i hi
    exact ⟨s, A1, k1, c1, A2, k2, c2, fine, fn, fd, nn, dd, x0, x1, x2, x3, x4, x5, hp.put6o hb ht _ _ _ _ _ _⟩⟩
theorem RowV.set {w : World} {g b o n m : Nat} {f : Nat → Rat} {cs cb : Array Value} {t : TypeId} (h : RowV w g n f m cs) (hb : Blk w b t cb) (ht : t ≠ 2) (hne : b ≠ g) (u : Value) : RowV (w.setCell ⟨b, o, none⟩ u) g n f m cs :=
  ⟨h.blk.other u hne, h.size, fun i hi => by
    obtain ⟨s, A1, k1, c1, A2, k2, c2, fine, fn, fd, nn, dd, x0, x1, x2, x3, x4, x5, hp⟩ := h.els i hi
    exact ⟨s, A1, k1, c1, A2, k2, c2, fine, fn, fd, nn, dd, x0, x1, x2, x3, x4, x5, hp.store hb ht⟩⟩
/-- R rows of n wide fractions each, in blocks from B on -/
structure MatW (w : World) (B gL R n : Nat) (M : Nat → Nat → Rat) (m : Nat) (gs cp : Nat → Nat) (cl : Array Value) (css : Nat → Array Value) : Prop where
  top : Blk w gL 61 cl
  lowL : B ≤ gL
  cell : ∀ i, i < R → cl[i]? = some (.slice (some ⟨gs i, 0, none⟩) n (cp i))
  row : ∀ i, i < R → RowV w (gs i) n (M i) m (css i)
  low : ∀ i, i < R → B ≤ gs i
  inj : ∀ i j, i < R → j < R → gs i = gs j → i = j
theorem MatW.below {w w' : World} {B gL R n m : Nat} {M : Nat → Nat → Rat} {gs cp : Nat → Nat} {cl : Array Value} {css : Nat → Array Value} (h : MatW w B gL R n M m gs cp cl css) (hb : Below w.heap.size w w') : MatW w' B gL R n M m gs cp cl css :=
  ⟨h.top.belowS hb, h.lowL, h.cell, fun i hi => (h.row i hi).below hb, h.low, h.inj⟩
theorem MatW.more {w : World} {B gL R n m m' : Nat} {M : Nat → Nat → Rat} {gs cp : Nat → Nat} {cl : Array Value} {css : Nat → Array Value} (h : MatW w B gL R n M m gs cp cl css) (hm : m ≤ m') : MatW w B gL R n M m' gs cp cl css :=
  ⟨h.top, h.lowL, h.cell, fun i hi => (h.row i hi).more hm, h.low, h.inj⟩
theorem MatW.congr {w : World} {B gL R n m : Nat} {M M' : Nat → Nat → Rat} {gs cp : Nat → Nat} {cl : Array Value} {css : Nat → Array Value} (h : MatW w B gL R n M m gs cp cl css) (hM : ∀ r c, r < R → c < n → M r c = M' r c) : MatW w B gL R n M' m gs cp cl css :=
  ⟨h.top, h.lowL, h.cell, fun i hi => (h.row i hi).congr fun c hc => hM i c hi hc, h.low, h.inj⟩
theorem MatW.neL {w : World} {B gL R n m : Nat} {M : Nat → Nat → Rat} {gs cp : Nat → Nat} {cl : Array Value} {css : Nat → Array Value} (h : MatW w B gL R n M m gs cp cl css) {i : Nat} (hi : i < R) : gs i ≠ gL := fun e => by
  have h1 := (h.row i hi).blk
  have h2 := h.top
  rw [e] at h1
  unfold Blk at h1 h2
  rw [h1] at h2
  injection h2 with h2
  injection h2 with _ h2 _
  exact absurd h2 (by decide)
/-- a cell is set -/
theorem MatW.put {w : World} {B gL R n r c m : Nat} {M : Nat → Nat → Rat} {gs cp : Nat → Nat} {cl : Array Value} {css : Nat → Array Value} {q : Rat} {s fine : Bool} {A1 A2 : Option Addr} {k1 c1 k2 c2 nn dd : Nat} {fn fd : Int} (h : MatW w B gL R n M m gs cp cl css) (hr : r < R) (hc : c < n) (hq : Parts w q m s (.slice A1 k1 c1) (.slice A2 k2 c2) fine fn fd nn dd) :
    ∃ css', MatW (put6o w (gs r) (c * 6) (.bool s) (.slice A1 k1 c1) (.slice A2 k2 c2) (.bool fine) (.int .i64 fn) (.int .i64 fd)) B gL R n (fun i j => if i = r ∧ j = c then q else M i j) m gs cp cl css' := by
  have hp := (h.row r hr).put hc hq
  have hne := h.neL hr
  refine ⟨fun i => if i = r then setA (css r) (c * 6) (.bool s) (.slice A1 k1 c1) (.slice A2 k2 c2) (.bool fine) (.int .i64 fn) (.int .i64 fd) else css i, blk_put6o h.top hne _ _ _ _ _ _, h.lowL, h.cell, fun i hi => ?_, h.low, h.inj⟩
  by_cases e : i = r
  · subst e
    simp only [if_true, true_and]
    exact hp
  · simp only [e, if_false, false_and]
    exact (h.row i hi).beside (h.row r hr).blk (by decide) (fun e2 => e (h.inj i r hi hr e2.symm)) _ _ _ _ _ _
/-- two rows change places -/
theorem MatW.swap {w : World} {B gL R n i k m : Nat} {M : Nat → Nat → Rat} {gs cp : Nat → Nat} {cl : Array Value} {css : Nat → Array Value} (h : MatW w B gL R n M m gs cp cl css) (hi : i < R) (hk : k < R) :
    ∃ cl', MatW ((w.setCell ⟨gL, i, none⟩ (.slice (some ⟨gs k, 0, none⟩) n (cp k))).setCell ⟨gL, k, none⟩ (.slice (some ⟨gs i, 0, none⟩) n (cp i))) B gL R n (swapM M i k) m (swF gs i k) (swF cp i k) cl' (swF css i k) := by
  have ci := h.cell i hi
  have ck := h.cell k hk
  have K1 := h.top.setTo i (.slice (some ⟨gs k, 0, none⟩) n (cp k)) rfl
  have hck : (cl.setIfInBounds i (.slice (some ⟨gs k, 0, none⟩) n (cp k)))[k]? = some (.slice (some ⟨gs k, 0, none⟩) n (cp k)) := by
    by_cases e : i = k
    · subst e
      exact Array.getElem?_setIfInBounds_self_of_lt (Array.getElem?_eq_some_iff.1 ci).1
    · rw [Array.getElem?_setIfInBounds_ne e]; exact ck
  refine ⟨_, K1.setTo k _ rfl, h.lowL, fun r hr => ?_, fun r hr => ?_, fun r hr => ?_, fun a b ha hb e => ?_⟩
  · unfold swF
    by_cases e : r = k
    · subst e
      simp only [if_true]
      exact Array.getElem?_setIfInBounds_self_of_lt (Array.getElem?_eq_some_iff.1 hck).1
    · rw [Array.getElem?_setIfInBounds_ne (fun h => e h.symm)]
      by_cases e2 : r = i
      · subst e2
        simp only [e, if_false, if_true]
        exact Array.getElem?_setIfInBounds_self_of_lt (Array.getElem?_eq_some_iff.1 ci).1
      · rw [Array.getElem?_setIfInBounds_ne (fun h => e2 h.symm)]
        simp only [e, e2, if_false]
        exact h.cell r hr
  · have key : ∀ j, j < R → RowV ((w.setCell ⟨gL, i, none⟩ (.slice (some ⟨gs k, 0, none⟩) n (cp k))).setCell ⟨gL, k, none⟩ (.slice (some ⟨gs i, 0, none⟩) n (cp i))) (gs j) n (M j) m (css j) := fun j hj =>
      (((h.row j hj).set h.top (by decide) (fun e => h.neL hj e.symm) _).set K1 (by decide) (fun e => h.neL hj e.symm) _)
    unfold swF swapM
    by_cases e : r = k
    · subst e
      simp only [if_true]
      exact key i hi
    · by_cases e2 : r = i
      · subst e2
        simp only [e, if_false, if_true]
        exact key k hk
      · simp only [e, e2, if_false]
        exact key r hr
  · unfold swF
    split
    · exact h.low i hi
    · split
      · exact h.low k hk
      · exact h.low r hr
  · exact Ratio.swF_inj hi hk h.inj ha hb e
theorem MatW.mid {w : World} {B gL R n i k m : Nat} {M : Nat → Nat → Rat} {gs cp : Nat → Nat} {cl : Array Value} {css : Nat → Array Value} (h : MatW w B gL R n M m gs cp cl css) (hi : i < R) (hk : k < R) :
    (w.setCell ⟨gL, i, none⟩ (.slice (some ⟨gs k, 0, none⟩) n (cp k))).cell? ⟨gL, k, none⟩ = some (.slice (some ⟨gs k, 0, none⟩) n (cp k)) := by
  refine (h.top.setTo i _ rfl).at k ?_
  by_cases e : i = k
  · subst e
    exact Array.getElem?_setIfInBounds_self_of_lt (Array.getElem?_eq_some_iff.1 (h.cell i hi)).1
  · rw [Array.getElem?_setIfInBounds_ne e]; exact h.cell k hk
end Go.Proofs.Ytionognmgcabbaa.Wide
/- The reference: a matrix of wide fractions is made row by row. -/
namespace Go.Proofs.Ytionognmgcabbaa.Wide
open Go.RowKit Go.Proofs.Ytionognmgcabbaa Go.Proofs.Ytionognmgcabbaa.Base Go.Proofs.Ytionognmgcabbaa.Mem Go.Proofs.Ytionognmgcabbaa.RatM Go.Proofs.Ytionognmgcabbaa.BigM Go.Proofs.Ytionognmgcabbaa.Big Go.Proofs.Ytionognmgcabbaa.Fine Go.Proofs.Ytionognmgcabbaa.Blk Go.Proofs.Ytionognmgcabbaa.GaussM
set_option linter.unusedVariables false
/-- n rows of the call's own, of L wide fractions each, no two in one block -/
structure OwnWW (w : World) (B : Nat) (v : Value) (n L : Nat) (f : Nat → Nat → Rat) (m : Nat) (us : List Value) : Prop where
  row : w.ownsRow B 61 1 v n us
  els : ∀ i, i < n → ∃ g c cs, us[i]? = some (.slice (some ⟨g, 0, none⟩) L c) ∧ RowV w g L (f i) m cs ∧ B ≤ g
  inj : ∀ (i j g c d : Nat), us[i]? = some (Value.slice (some ⟨g, 0, none⟩) L c) → us[j]? = some (Value.slice (some ⟨g, 0, none⟩) L d) → i = j
theorem OwnWW.below {w w' : World} {B n L m : Nat} {v : Value} {f : Nat → Nat → Rat} {us : List Value} (h : OwnWW w B v n L f m us) (hb : Below w.heap.size w w') : OwnWW w' B v n L f m us :=
  ⟨ownsRow_below h.row hb, fun i hi => by
    obtain ⟨g, c, cs, e, hr, hB⟩ := h.els i hi
    exact ⟨g, c, cs, e, hr.below hb, hB⟩, h.inj⟩
theorem OwnWW.lit0 (w : World) (L : Nat) (f : Nat → Nat → Rat) (m : Nat) : OwnWW (w.alloc (.cells #[] 61)) w.heap.size (.slice (some ⟨w.heap.size, 0, none⟩) 0 0) 0 L f m [] :=
  ⟨World.ownsRow_made w #[] 0 (Nat.le_refl _) (Nat.zero_le _) (by simp), fun i hi => absurd hi (Nat.not_lt_zero i), fun i j g c d h => by cases h⟩
theorem OwnWW.push {wr w1 w2 : World} {B n L m g c : Nat} {v v' : Value} {f : Nat → Nat → Rat} {us : List Value} {cs : Array Value} {ca : Array Value} {t : TypeId} (h : OwnWW wr B v n L f m us) (h1 : Below wr.heap.size wr w1) (hr : RowV w1 g L (f n) m cs) (hg0 : wr.heap.size ≤ g) (hB : B ≤ wr.heap.size)
    (hown : w2.ownsRow B 61 1 v' (n + 1) (us ++ [.slice (some ⟨g, 0, none⟩) L c])) (hg : (w1.alloc (.cells ca t)).grownBy w2 v.ownBlock) : OwnWW w2 B v' (n + 1) L f m (us ++ [.slice (some ⟨g, 0, none⟩) L c]) := by
  have hb2 : Below w1.heap.size w1 (w1.alloc (.cells ca t)) := (Below.refl _ _).alloc (Nat.le_refl _) _
  have hA := (h.below h1).below hb2
  have hlen : us.length = n := by have := h.row.1; omega
  have hold : ∀ (i g' d : Nat), us[i]? = some (Value.slice (some ⟨g', 0, none⟩) L d) → g' ≠ g := fun i g' d e e2 => by
    have hi : i < n := by have := (List.getElem?_eq_some_iff.1 e).1; omega
    obtain ⟨g'', c'', cs'', e3, hr3, _⟩ := h.els i hi
    rw [e] at e3
    injection e3 with e3
    injection e3 with e3 _ _
    injection e3 with e3
    injection e3 with e3 _ _
    have := hr3.blk.lt
    omega
  refine ⟨hown, fun i hi => ?_, fun i j g' c' d' e1 e2 => ?_⟩
  · rcases Nat.lt_or_ge i n with hlt | hge
    · obtain ⟨g', c', cs', e, hr', hB'⟩ := hA.els i hlt
      exact ⟨g', c', cs', by rw [List.getElem?_append_left (by omega)]; exact e, hr'.kept hA.row (by decide) (by decide) hg, hB'⟩
    · obtain rfl : i = n := by omega
      exact ⟨g, c, cs, by rw [List.getElem?_append_right (by omega), hlen, Nat.sub_self]; rfl, (hr.below hb2).kept hA.row (by decide) (by decide) hg, by omega⟩
  · have hi := (List.getElem?_eq_some_iff.1 e1).1
    have hj := (List.getElem?_eq_some_iff.1 e2).1
    simp only [List.length_append, List.length_cons, List.length_nil] at hi hj
    rcases Nat.lt_or_ge i n with h1 | h1 <;> rcases Nat.lt_or_ge j n with h2 | h2
    · rw [List.getElem?_append_left (by omega)] at e1 e2
      exact h.inj i j g' c' d' e1 e2
    · rw [List.getElem?_append_left (by omega)] at e1
      obtain rfl : j = us.length := by omega
      rw [List.getElem?_append_right (by omega), Nat.sub_self] at e2
      simp only [List.getElem?_cons_zero, Option.some.injEq, Value.slice.injEq, Addr.mk.injEq, and_true, true_and] at e2
      exact absurd e2.1.symm (hold i g' c' e1)
    · rw [List.getElem?_append_left (by omega)] at e2
      obtain rfl : i = us.length := by omega
      rw [List.getElem?_append_right (by omega), Nat.sub_self] at e1
      simp only [List.getElem?_cons_zero, Option.some.injEq, Value.slice.injEq, Addr.mk.injEq, and_true, true_and] at e1
      exact absurd e1.1.symm (hold j g' d' e2)
    · omega
theorem OwnWW.form {w : World} {B n L m : Nat} {v : Value} {f : Nat → Nat → Rat} {us : List Value} (h : OwnWW w B v n L f m us) : ∃ A c, v = .slice A n c ∧ (0 < n → ∃ g, A = some ⟨g, 0, none⟩ ∧ B ≤ g ∧ g < w.heap.size) := ownsRow_form h.row
theorem OwnWW.congr {w : World} {B n L m : Nat} {v : Value} {f f' : Nat → Nat → Rat} {us : List Value} (h : OwnWW w B v n L f m us) (hf : ∀ i j, i < n → j < L → f i j = f' i j) : OwnWW w B v n L f' m us :=
  ⟨h.row, fun i hi => by
    obtain ⟨g, c, cs, e, hr, hB⟩ := h.els i hi
    exact ⟨g, c, cs, e, hr.congr (fun j hj => hf i j hi hj), hB⟩, h.inj⟩
/-- the rows as a matrix -/
theorem OwnWW.mat {w : World} {B n L m gL cL : Nat} {f : Nat → Nat → Rat} {us : List Value} (h : OwnWW w B (.slice (some ⟨gL, 0, none⟩) n cL) n L f m us) : ∃ gs cp cl css, MatW w B gL n L f m gs cp cl css := by
  obtain ⟨cur, hc, hBL, _⟩ := ownsRow_block h.row (g := gL) rfl
  have hlen : us.length = n := by have := h.row.1; omega
  have hcell : ∀ i, i < n → cur[i]? = us[i]? := fun i hi => by
    rw [← cell_of_row w gL i cur _ (0, 0) hc]
    exact World.ownsRow.cellAt h.row i (by omega)
  have key : ∀ i, ∃ p : Nat × Nat × Array Value, i < n → us[i]? = some (.slice (some ⟨p.1, 0, none⟩) L p.2.1) ∧ RowV w p.1 L (f i) m p.2.2 ∧ B ≤ p.1 := fun i => by
    by_cases hi : i < n
    · obtain ⟨g, c, cs, e, hr, hB⟩ := h.els i hi
      exact ⟨⟨g, c, cs⟩, fun _ => ⟨e, hr, hB⟩⟩
    · exact ⟨⟨0, 0, #[]⟩, fun h' => absurd h' hi⟩
  obtain ⟨p, hp⟩ := Classical.axiomOfChoice key
  refine ⟨fun i => (p i).1, fun i => (p i).2.1, cur, fun i => (p i).2.2, hc, hBL, fun i hi => by rw [hcell i hi]; exact (hp i hi).1, fun i hi => (hp i hi).2.1, fun i hi => (hp i hi).2.2, fun i j hi hj e => ?_⟩
  have e1 := (hp i hi).1
  have e2 := (hp j hj).1
  have e3 : (p i).1 = (p j).1 := e
  rw [← e3] at e2
  exact h.inj i j _ _ _ e1 e2
end Go.Proofs.Ytionognmgcabbaa.Wide

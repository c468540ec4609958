/- The reference's fractions of any size: what is small, what is given. -/
import Derived.Test.YtionognmgcabbaaGreatMgSte15
import Derived.Test.YtionognmgcabbaaGreatMgSte08
import Derived.Test.YtionognmgcabbaaGreatMgSte11
import Derived.Test.YtionognmgcabbaaGreatMgSte13
import Derived.Test.YtionognmgcabbaaGreatMgSte07
namespace Go.Proofs.YtionognmgcabbaaGreat.Wide
open Go.RowKit Go.Proofs.YtionognmgcabbaaGreat Go.Proofs.YtionognmgcabbaaGreat.Base Go.Proofs.YtionognmgcabbaaGreat.Mem Go.Proofs.YtionognmgcabbaaGreat.RatM Go.Proofs.YtionognmgcabbaaGreat.BigM Go.Proofs.YtionognmgcabbaaGreat.Big Go.Proofs.YtionognmgcabbaaGreat.Fine Go.Proofs.YtionognmgcabbaaGreat.Blk
set_option linter.unusedVariables false
def smN (x : Nat) : Nat := if x ≤ 1000000000000000000 then x else 0
theorem bigSmall_no {x : Nat} {v : Value} (w : World) (hv : IsB w x v) (hl : (bigL x).length ≤ 900000) (h : 1000000000000000000 < x) : Calls Tryz.prog 121 #[v] w fun e w' => e = .returned (.tuple #[.int .i64 0, .bool false]) ∧ Below w.heap.size w w' := by
  obtain ⟨A, c, rfl, _⟩ := Dig.form hv
  by_cases h2 : 2 < (bigL x).length
  · clear hv
    generalize (bigL x).length = k at *
    go_enter Tryz.func121, Tryz.ntmps121
    go_wp2
    go_ret2
    exact ⟨rfl, Below.refl _ _⟩
  · have HV := Lib.hid hv
    have HL := Lib.hid hl
    have hcm : cmpN x 1000000000000000000 = 1 := cmpN_gt h
    have hlc : (bigL 1000000000000000000).length ≤ 4000000 := Nat.le_trans (small_len (Nat.le_refl _)) (by decide)
    have HLC := Lib.hid hlc
    clear hv hl h hlc
    go_enter Tryz.func121, Tryz.ntmps121
    go_wp2_with fail
    refine (bigOf_any 1000000000000000000 (by decide) w).mono ?_
    rintro e w1 ⟨v1, rfl, h1, hb1⟩
    have H1 := Lib.hid h1
    have HB1 := Lib.hid hb1
    clear h1 hb1
    go_wp2_with fail
    refine (bigCmp_any w1 (HV.out.below HB1.out) H1.out (Nat.le_trans HL.out (by decide)) HLC.out).mono ?_
    rintro e w2 ⟨rfl, hD⟩
    have HB2 := Lib.hid (Base.Below.nextA HB1.out hD.below)
    clear hD
    rw [hcm]
    clear hcm
    go_wp2
    go_ret2
    exact ⟨rfl, HB2.out⟩
/-- the number so far -/
def SmRel (x : Nat) (nv iv : Value) : Prop := ∃ i : Nat, i ≤ (bigL x).length ∧ iv = .int .i64 ((i : Int) - 1) ∧ nv = .int .i64 ((x / D30 ^ i : Nat) : Int)
set_option maxHeartbeats 2000000 in
set_option maxRecDepth 100000 in
theorem bigSmall_yes {x : Nat} {v : Value} (w : World) (hv : IsB w x v) (h : x ≤ 1000000000000000000) : Calls Tryz.prog 121 #[v] w fun e w' => e = .returned (.tuple #[.int .i64 (x : Int), .bool true]) ∧ Below w.heap.size w w' := by
  obtain ⟨A, c, rfl, _⟩ := Dig.form hv
  have hl2 := small_len h
  have HV := Lib.hid hv
  have hcm : ¬ 0 < cmpN x 1000000000000000000 := by
    unfold cmpN
    split
    · decide
    · rw [if_neg (by omega)]; decide
  have hlc : (bigL 1000000000000000000).length ≤ 4000000 := Nat.le_trans (small_len (Nat.le_refl _)) (by decide)
  have HLC := Lib.hid hlc
  have HX := Lib.hid h
  have hd0 : x / D30 ^ (bigL x).length = 0 := Nat.div_eq_of_lt (big_lt_pow x)
  have HD0 := Lib.hid hd0
  have hn2 : ¬ 2 < (bigL x).length := by omega
  clear hv hlc h hd0
  generalize hcme : cmpN x 1000000000000000000 = cm at *
  have HCM := Lib.hid hcme
  clear hcme
  go_enter Tryz.func121, Tryz.ntmps121
  go_wp2_with fail
  refine (bigOf_any 1000000000000000000 (by decide) w).mono ?_
  rintro e w1 ⟨v1, rfl, h1, hb1⟩
  have H1 := Lib.hid h1
  have HB1 := Lib.hid hb1
  clear h1 hb1
  go_wp2_with fail
  refine (bigCmp_any w1 (HV.out.below HB1.out) H1.out (by omega) HLC.out).mono ?_
  rintro e w2 ⟨rfl, hD⟩
  have HB2 := Lib.hid (Base.Below.nextA HB1.out hD.below)
  have HV2 := Lib.hid (HV.out.below HB2.out)
  clear hD
  rw [HCM.out]
  go_wp2
  go_loop [4, 5] (fun nv iv => SmRel x nv iv) (fun _ iv => (intOf iv + 1).toNat)
  case atStart => exact ⟨(bigL x).length, Nat.le_refl _, rfl, by rw [HD0.out]; rfl⟩
  case round =>
    obtain ⟨i, hi, rfl, rfl⟩ := hrel
    by_cases hpos : 0 < i
    · obtain ⟨m, rfl⟩ : ∃ m, i = m + 1 := ⟨i - 1, by omega⟩
      have e1 : (((m + 1 : Nat) : Int) - 1) = (m : Int) := by omega
      rw [e1]
      clear e1
      obtain ⟨g, rfl, hc⟩ := IsB.cell HV2.out (show m < (bigL x).length by omega)
      have hdg := dig_at x m
      have hps := pow_succ_div x m
      have hxl := HX.out
      have hle : x / D30 ^ m ≤ x := Nat.div_le_self _ _
      obtain ⟨N, hN⟩ : ∃ N, N = x / D30 ^ m := ⟨_, rfl⟩
      rw [← hN] at hdg hps hle
      rw [hps]
      rw [hdg] at hc
      have hn1 : N / D30 ≤ 1000000000 := by unfold D30; omega
      have hn2' : N % D30 < 1073741824 := Nat.mod_lt _ (by decide)
      have hor : bits .or .i64 (((N / D30 : Nat) : Int) * 1073741824) ((N % D30 : Nat) : Int) = (N : Int) := by
        have hh := Bits.i64_or_nat (N / D30 * 2 ^ 30) (N % D30) (by omega) (by omega)
        have e := Nat.shiftLeft_add_eq_or_of_lt (show N % D30 < 2 ^ 30 by omega) (N / D30)
        rw [Nat.shiftLeft_eq] at e
        rw [← e] at hh
        have e2 : N / D30 * 2 ^ 30 + N % D30 = N := by have := Nat.div_add_mod N D30; unfold D30 at *; omega
        rw [e2] at hh
        rw [← hh]
        congr 1
      have HN := Lib.hid (show SmRel x (.int .i64 (N : Int)) (.int .i64 ((m : Int) - 1)) from ⟨m, by omega, rfl, by rw [hN]⟩)
      clear hdg hps hN hle
      generalize N / D30 = qd at *
      generalize N % D30 = rd at *
      go_wp2
      go_round
      case rel => exact HN.out
      case measure => simp [intOf]
    · obtain rfl : i = 0 := by omega
      rw [Nat.pow_zero, Nat.div_one]
      go_wp2
      go_ret2
      exact ⟨rfl, HB2.out⟩
theorem bigSmall_any {x : Nat} {v : Value} (w : World) (hv : IsB w x v) (hl : (bigL x).length ≤ 900000) : Calls Tryz.prog 121 #[v] w fun e w' => (∃ i : Int, e = .returned (.tuple #[.int .i64 i, .bool (decide (x ≤ 1000000000000000000))]) ∧ (x ≤ 1000000000000000000 → i = x)) ∧ Below w.heap.size w w' := by
  rcases Nat.lt_or_ge 1000000000000000000 x with h | h
  · rw [decide_eq_false (by omega)]
    exact (bigSmall_no w hv hl h).mono fun e w' ⟨h1, h2⟩ => ⟨⟨0, h1, fun h' => absurd h' (by omega)⟩, h2⟩
  · rw [decide_eq_true h]
    exact (bigSmall_yes w hv h).mono fun e w' ⟨h1, h2⟩ => ⟨⟨x, h1, fun _ => rfl⟩, h2⟩
end Go.Proofs.YtionognmgcabbaaGreat.Wide
/- The reference's fractions of any size: what is given, the zero. -/
namespace Go.Proofs.YtionognmgcabbaaGreat.Wide
open Go.RowKit Go.Proofs.YtionognmgcabbaaGreat Go.Proofs.YtionognmgcabbaaGreat.Base Go.Proofs.YtionognmgcabbaaGreat.Mem Go.Proofs.YtionognmgcabbaaGreat.RatM Go.Proofs.YtionognmgcabbaaGreat.BigM Go.Proofs.YtionognmgcabbaaGreat.Big Go.Proofs.YtionognmgcabbaaGreat.Fine Go.Proofs.YtionognmgcabbaaGreat.Blk
set_option linter.unusedVariables false
theorem zero_any (w : World) : Calls Tryz.prog 86 #[] w fun e w' => e = .returned (.agg #[.int .i64 0, .int .i64 1]) ∧ Below w.heap.size w w' := by
  go_enter Tryz.func86, Tryz.ntmps86
  go_wp2
  exact bodyPost_ret (v := .agg #[.int .i64 0, .int .i64 1]) (by simp [results, Tryz.results86, go_sem]) rfl ⟨rfl, (Below.refl _ _).alloc (Nat.le_refl _) _⟩
set_option maxHeartbeats 4000000 in
set_option maxRecDepth 100000 in
theorem give_any {q : Rat} {m : Nat} {v : Value} (w : World) (hv : IsW w q m v) (hm : m ≤ 400000) : Calls Tryz.prog 57 #[v] w (FRet q w) := by
  have HV := Lib.hid hv
  obtain ⟨s, A1, k1, c1, A2, k2, c2, fine, fn, fd, n, d, rfl, hp⟩ := hv
  have HP := Lib.hid hp
  obtain ⟨W2, hW2⟩ : ∃ W2, W2 = (w.alloc (.cells #[.bool s, .slice A1 k1 c1, .slice A2 k2 c2, .bool fine, .int .i64 fn, .int .i64 fd] 81)).alloc (.cells #[.int .i64 0, .int .i64 0] 43) := ⟨_, rfl⟩
  have K0 : Hid (Blk W2 w.heap.size 81 #[.bool s, .slice A1 k1 c1, .slice A2 k2 c2, .bool fine, .int .i64 fn, .int .i64 fd]) := Lib.hid (by rw [hW2]; exact (Blk.new w _ _).alloc _)
  have KR : Hid (Blk W2 (w.heap.size + 1) 43 #[.int .i64 0, .int .i64 0]) := Lib.hid (by rw [hW2]; exact Blk.newAt _ _ (by simp))
  have HB : Hid (Below w.heap.size w W2) := Lib.hid (by rw [hW2]; exact ((Below.refl _ _).alloc (Nat.le_refl _) _).alloc (by simp) _)
  have HW := Lib.hid hW2
  clear hW2 hp
  have x0 := K0.out.at 0 (v := .bool s) rfl
  have x1 := K0.out.at 1 (v := .slice A1 k1 c1) rfl
  have x2 := K0.out.at 2 (v := .slice A2 k2 c2) rfl
  have x3 := K0.out.at 3 (v := .bool fine) rfl
  have x4 := K0.out.at 4 (v := .int .i64 fn) rfl
  have x5 := K0.out.at 5 (v := .int .i64 fd) rfl
  go_enter Tryz.func57, Tryz.ntmps57
  go_upto_region 1 with (fail)
  rw [← HW.out]
  clear HW
  cases fine with
  | true =>
    have HE : Hid (numQ q = fn ∧ denQ q = fd ∧ smallQ q = true) := Lib.hid (by
      obtain ⟨h1, h2, _, _⟩ := HP.out.small rfl
      obtain ⟨g1, g2, _⟩ := h1.num
      have h3 := h1.small
      rw [h2] at g1 g2 h3
      obtain ⟨t1, t2⟩ := small_true h3
      obtain ⟨_, e1, e2⟩ := RatM.small_yes t1 t2
      exact ⟨by rw [e1, g1], by rw [e2, g2], h3⟩)
    clear HV
    have z0 := KR.out.frz 0
    have z1 := KR.out.frz 1
    have c0 := KR.out.at 0 (v := .int .i64 0) rfl
    have c1 := KR.out.at 1 (v := .int .i64 0) rfl
    have SS := (KR.out.setTo 0 (.int .i64 fn) rfl).setTo 1 (.int .i64 fd) rfl
    have s0 := SS.at 0 rfl
    have s1 := SS.at 1 rfl
    clear SS
    go_wp2
    refine bodyPost_ret (v := .tuple #[.agg #[.int .i64 fn, .int .i64 fd], .bool true]) (by simp [results, Tryz.results57, go_sem, s0, s1]) rfl ⟨by rw [HE.out.1, HE.out.2.1, HE.out.2.2], (HB.out.setCell (by simp) _).setCell (by simp) _⟩
  | false =>
    have hl := lowest_any W2 (HV.out.below HB.out) hm
    have HL := Lib.hid hl
    clear hl
    go_wp2_with fail
    refine HL.out.mono ?_
    rintro e w3 ⟨v, rfl, hv, hb3⟩
    obtain ⟨s', B1, j1, e1, B2, j2, e2, fi, gn, gd, n', d', rfl, hp', hn', hd'⟩ := hv
    clear HL HV HP x0 x1 x2 x3 x4 x5 K0
    replace KR := Lib.hid (KR.out.belowS hb3)
    replace HB := Lib.hid (Base.Below.nextA HB.out hb3)
    have HP := Lib.hid hp'
    have HND := Lib.hid (And.intro hn' hd')
    clear hp' hb3 hn' hd'
    go_upto_region 4 with (fail)
    obtain ⟨W4, hW4⟩ : ∃ W4, W4 = w3.alloc (.cells #[.bool s', .slice B1 j1 e1, .slice B2 j2 e2, .bool fi, .int .i64 gn, .int .i64 gd] 81) := ⟨_, rfl⟩
    rw [← hW4]
    have K4 : Hid (Blk W4 w3.heap.size 81 #[.bool s', .slice B1 j1 e1, .slice B2 j2 e2, .bool fi, .int .i64 gn, .int .i64 gd]) := Lib.hid (by rw [hW4]; exact Blk.new w3 _ _)
    replace KR : Hid (Blk W4 (w.heap.size + 1) 43 #[.int .i64 0, .int .i64 0]) := Lib.hid (by rw [hW4]; exact KR.out.alloc _)
    have hb4 : Below w3.heap.size w3 W4 := by rw [hW4]; exact (Below.refl _ _).alloc (Nat.le_refl _) _
    replace HB := Lib.hid (Base.Below.nextA HB.out hb4)
    replace HP := Lib.hid (HP.out.below hb4)
    clear hW4 hb4
    have y1 := K4.out.at 1 (v := .slice B1 j1 e1) rfl
    go_wp2_with fail
    refine (bigSmall_any W4 HP.out.num (Nat.le_trans HP.out.ln (by omega))).mono ?_
    rintro e w5 ⟨⟨i1, rfl, hi1⟩, hb5⟩
    replace K4 := Lib.hid (K4.out.belowS hb5)
    replace KR := Lib.hid (KR.out.belowS hb5)
    replace HB := Lib.hid (Base.Below.nextA HB.out hb5)
    replace HP := Lib.hid (HP.out.below hb5)
    have HI1 := Lib.hid hi1
    clear y1 hb5 hi1
    have y2 := K4.out.at 2 (v := .slice B2 j2 e2) rfl
    generalize ho1 : decide (n' ≤ 1000000000000000000) = o1 at *
    have HO1 := Lib.hid ho1
    clear ho1
    go_wp2_with fail
    refine (bigSmall_any w5 HP.out.den (Nat.le_trans HP.out.ld (by omega))).mono ?_
    rintro e w6 ⟨⟨i2, rfl, hi2⟩, hb6⟩
    replace K4 := Lib.hid (K4.out.belowS hb6)
    replace KR := Lib.hid (KR.out.belowS hb6)
    replace HB := Lib.hid (Base.Below.nextA HB.out hb6)
    replace HP := Lib.hid (HP.out.below hb6)
    have HI2 := Lib.hid hi2
    clear y2 hb6 hi2
    have y0 := K4.out.at 0 (v := .bool s') rfl
    generalize ho2 : decide (d' ≤ 1000000000000000000) = o2 at *
    have HO2 := Lib.hid ho2
    clear ho2
    cases o1 with
    | false =>
      have HE : Hid (numQ q = 0 ∧ denQ q = 0 ∧ smallQ q = false) := Lib.hid (by
        obtain ⟨g1, g2, g3⟩ := RatM.small_no (q := q) (.inl (by rw [← HND.out.1]; exact of_decide_eq_false HO1.out))
        exact ⟨g2, g3, g1⟩)
      cases o2 with
      | false =>
        have z0 := KR.out.frz 0
        have z1 := KR.out.frz 1
        have c0 := KR.out.at 0 (v := .int .i64 0) rfl
        have c1 := KR.out.at 1 (v := .int .i64 0) rfl
        have SS := (KR.out.setTo 0 (.int .i64 0) rfl).setTo 1 (.int .i64 0) rfl
        have s0 := SS.at 0 rfl
        have s1 := SS.at 1 rfl
        clear SS
        go_wp2
        refine bodyPost_ret (v := .tuple #[.agg #[.int .i64 0, .int .i64 0], .bool false]) (by simp [results, Tryz.results57, go_sem, s0, s1]) rfl ⟨by rw [HE.out.1, HE.out.2.1, HE.out.2.2], (HB.out.setCell (by simp) _).setCell (by simp) _⟩
      | true =>
        have z0 := KR.out.frz 0
        have z1 := KR.out.frz 1
        have c0 := KR.out.at 0 (v := .int .i64 0) rfl
        have c1 := KR.out.at 1 (v := .int .i64 0) rfl
        have SS := (KR.out.setTo 0 (.int .i64 0) rfl).setTo 1 (.int .i64 0) rfl
        have s0 := SS.at 0 rfl
        have s1 := SS.at 1 rfl
        clear SS
        go_wp2
        refine bodyPost_ret (v := .tuple #[.agg #[.int .i64 0, .int .i64 0], .bool false]) (by simp [results, Tryz.results57, go_sem, s0, s1]) rfl ⟨by rw [HE.out.1, HE.out.2.1, HE.out.2.2], (HB.out.setCell (by simp) _).setCell (by simp) _⟩
    | true =>
      cases o2 with
      | false =>
        have HE : Hid (numQ q = 0 ∧ denQ q = 0 ∧ smallQ q = false) := Lib.hid (by
          obtain ⟨g1, g2, g3⟩ := RatM.small_no (q := q) (.inr (by rw [← HND.out.2]; exact of_decide_eq_false HO2.out))
          exact ⟨g2, g3, g1⟩)
        have z0 := KR.out.frz 0
        have z1 := KR.out.frz 1
        have c0 := KR.out.at 0 (v := .int .i64 0) rfl
        have c1 := KR.out.at 1 (v := .int .i64 0) rfl
        have SS := (KR.out.setTo 0 (.int .i64 0) rfl).setTo 1 (.int .i64 0) rfl
        have s0 := SS.at 0 rfl
        have s1 := SS.at 1 rfl
        clear SS
        go_wp2
        refine bodyPost_ret (v := .tuple #[.agg #[.int .i64 0, .int .i64 0], .bool false]) (by simp [results, Tryz.results57, go_sem, s0, s1]) rfl ⟨by rw [HE.out.1, HE.out.2.1, HE.out.2.2], (HB.out.setCell (by simp) _).setCell (by simp) _⟩
      | true =>
        have t1 := of_decide_eq_true HO1.out
        have t2 := of_decide_eq_true HO2.out
        have k1 := HI1.out t1
        have k2 := HI2.out t2
        have hl0 : 0 ≤ i1 := by omega
        have hl1 : i1 ≤ 1000000000000000000 := by omega
        have hval := HP.out.val
        have HEE : Hid (numQ q = (if s' then -i1 else i1) ∧ denQ q = i2 ∧ smallQ q = true) := Lib.hid (by
          obtain ⟨g1, g2, g3⟩ := RatM.small_yes (q := q) (by rw [← HND.out.1]; exact t1) (by rw [← HND.out.2]; exact t2)
          have hg : Nat.gcd n' d' = 1 := by rw [HND.out.1, HND.out.2]; exact q.reduced
          obtain ⟨l1, l2⟩ := low_of (s := s') (n := n') (d := d') (Nat.ne_of_gt HP.out.pos) hg
          rw [hval] at l1 l2
          exact ⟨by rw [g2, l1, k1], by rw [g3, l2, k2], g1⟩)
        clear t1 t2 k1 k2 hval
        cases s' with
        | true =>
          have HE : Hid (numQ q = -i1 ∧ denQ q = i2 ∧ smallQ q = true) := HEE
          clear HEE
          have z0 := KR.out.frz 0
          have z1 := KR.out.frz 1
          have c0 := KR.out.at 0 (v := .int .i64 0) rfl
          have c1 := KR.out.at 1 (v := .int .i64 0) rfl
          have SS := (KR.out.setTo 0 (.int .i64 (-i1)) rfl).setTo 1 (.int .i64 i2) rfl
          have s0 := SS.at 0 rfl
          have s1 := SS.at 1 rfl
          clear SS
          go_wp2
          refine bodyPost_ret (v := .tuple #[.agg #[.int .i64 (-i1), .int .i64 i2], .bool true]) (by simp [results, Tryz.results57, go_sem, s0, s1]) rfl ⟨by rw [HE.out.1, HE.out.2.1, HE.out.2.2], (HB.out.setCell (by simp) _).setCell (by simp) _⟩
        | false =>
          have HE : Hid (numQ q = i1 ∧ denQ q = i2 ∧ smallQ q = true) := HEE
          clear HEE
          have z0 := KR.out.frz 0
          have z1 := KR.out.frz 1
          have c0 := KR.out.at 0 (v := .int .i64 0) rfl
          have c1 := KR.out.at 1 (v := .int .i64 0) rfl
          have SS := (KR.out.setTo 0 (.int .i64 i1) rfl).setTo 1 (.int .i64 i2) rfl
          have s0 := SS.at 0 rfl
          have s1 := SS.at 1 rfl
          clear SS
          go_wp2
          refine bodyPost_ret (v := .tuple #[.agg #[.int .i64 i1, .int .i64 i2], .bool true]) (by simp [results, Tryz.results57, go_sem, s0, s1]) rfl ⟨by rw [HE.out.1, HE.out.2.1, HE.out.2.2], (HB.out.setCell (by simp) _).setCell (by simp) _⟩
end Go.Proofs.YtionognmgcabbaaGreat.Wide
/- Lists of wide fractions in memory: six cells an element; pushing, reading. -/
namespace Go.Proofs.YtionognmgcabbaaGreat.Wide
open Go.RowKit Go.Proofs.YtionognmgcabbaaGreat Go.Proofs.YtionognmgcabbaaGreat.Base Go.Proofs.YtionognmgcabbaaGreat.Mem Go.Proofs.YtionognmgcabbaaGreat.RatM Go.Proofs.YtionognmgcabbaaGreat.BigM Go.Proofs.YtionognmgcabbaaGreat.Big Go.Proofs.YtionognmgcabbaaGreat.Fine Go.Proofs.YtionognmgcabbaaGreat.Blk Go.Proofs.YtionognmgcabbaaGreat.GaussM
set_option linter.unusedVariables false
def six (s : Bool) (vn vd : Value) (fine : Bool) (fn fd : Int) : List Value := [.bool s, vn, vd, .bool fine, .int .i64 fn, .int .i64 fd]
/-- an element of the cells cs -/
def ElW (w : World) (cs : List Value) (i : Nat) (q : Rat) (m : Nat) : Prop :=
  ∃ s A1 k1 c1 A2 k2 c2 fine fn fd n d, (cs.drop (i * 6)).take 6 = six s (.slice A1 k1 c1) (.slice A2 k2 c2) fine fn fd ∧ Parts w q m s (.slice A1 k1 c1) (.slice A2 k2 c2) fine fn fd n d
/-- the n elements of a row of the call's own are the rationals f -/
structure OwnW (w : World) (B : Nat) (v : Value) (n : Nat) (f : Nat → Rat) (m : Nat) (cs : List Value) : Prop where
  row : w.ownsRow B 81 6 v n cs
  els : ∀ i, i < n → ElW w cs i (f i) m
theorem ElW.below {w w' : World} {cs : List Value} {i m : Nat} {q : Rat} (h : ElW w cs i q m) (hb : Below w.heap.size w w') : ElW w' cs i q m := by
  obtain ⟨s, A1, k1, c1, A2, k2, c2, fine, fn, fd, n, d, e, hp⟩ := h
  exact ⟨s, A1, k1, c1, A2, k2, c2, fine, fn, fd, n, d, e, hp.below hb⟩
theorem OwnW.below {w w' : World} {B n m : Nat} {v : Value} {f : Nat → Rat} {cs : List Value} (h : OwnW w B v n f m cs) (hb : Below w.heap.size w w') : OwnW w' B v n f m cs :=
  ⟨ownsRow_below h.row hb, fun i hi => (h.els i hi).below hb⟩
theorem OwnW.form {w : World} {B n m : Nat} {v : Value} {f : Nat → Rat} {cs : List Value} (h : OwnW w B v n f m cs) : ∃ A c, v = .slice A n c ∧ (0 < n → ∃ g, A = some ⟨g, 0, none⟩ ∧ B ≤ g ∧ g < w.heap.size) := ownsRow_form h.row
theorem OwnW.more {w : World} {B n m m' : Nat} {v : Value} {f : Nat → Rat} {cs : List Value} (h : OwnW w B v n f m cs) (hm : m ≤ m') : OwnW w B v n f m' cs :=
  ⟨h.row, fun i hi => by
    obtain ⟨s, A1, k1, c1, A2, k2, c2, fine, fn, fd, n, d, e, hp⟩ := h.els i hi
    exact ⟨s, A1, k1, c1, A2, k2, c2, fine, fn, fd, n, d, e, hp.more hm⟩⟩
theorem OwnW.base {w : World} {B B' n m : Nat} {v : Value} {f : Nat → Rat} {cs : List Value} (h : OwnW w B v n f m cs) (hB : B' ≤ B) : OwnW w B' v n f m cs := ⟨ownsRow_base h.row hB, h.els⟩
theorem OwnW.congr {w : World} {B n m : Nat} {v : Value} {f f' : Nat → Rat} {cs : List Value} (h : OwnW w B v n f m cs) (hf : ∀ i, i < n → f i = f' i) : OwnW w B v n f' m cs :=
  ⟨h.row, fun i hi => by rw [← hf i hi]; exact h.els i hi⟩
/-- an element is read -/
theorem OwnW.at {w : World} {B n m c : Nat} {A : Option Addr} {f : Nat → Rat} {cs : List Value} (h : OwnW w B (.slice A n c) n f m cs) {i : Nat} (hi : i < n) :
    ∃ g s A1 k1 c1 A2 k2 c2 fine fn fd nn dd, A = some ⟨g, 0, none⟩ ∧ g < w.heap.size ∧ w.cell? ⟨g, i * 6, none⟩ = some (.bool s) ∧ w.cell? ⟨g, i * 6 + 1, none⟩ = some (.slice A1 k1 c1) ∧ w.cell? ⟨g, i * 6 + 2, none⟩ = some (.slice A2 k2 c2) ∧
      w.cell? ⟨g, i * 6 + 3, none⟩ = some (.bool fine) ∧ w.cell? ⟨g, i * 6 + 4, none⟩ = some (.int .i64 fn) ∧ w.cell? ⟨g, i * 6 + 5, none⟩ = some (.int .i64 fd) ∧ Parts w (f i) m s (.slice A1 k1 c1) (.slice A2 k2 c2) fine fn fd nn dd := by
  obtain ⟨A', c', e, hf⟩ := h.form
  injection e with e1 e2 e3
  subst e1 e3
  obtain ⟨g, rfl, _, hlt⟩ := hf (by omega)
  obtain ⟨s, A1, k1, c1, A2, k2, c2, fine, fn, fd, nn, dd, e, hp⟩ := h.els i hi
  have key : ∀ k, k < 6 → w.cell? ⟨g, i * 6 + k, none⟩ = (six s (.slice A1 k1 c1) (.slice A2 k2 c2) fine fn fd)[k]? := fun k hk => by
    rw [World.ownsRow.cellAt h.row (i * 6 + k) (by omega), ← e, List.getElem?_take, if_pos hk, List.getElem?_drop]
  exact ⟨g, s, A1, k1, c1, A2, k2, c2, fine, fn, fd, nn, dd, rfl, hlt, key 0 (by decide), key 1 (by decide), key 2 (by decide), key 3 (by decide), key 4 (by decide), key 5 (by decide), hp⟩
theorem infoW : (Tryz.prog.info? 81).map (fun i => (i.zero, i.size, i.bytes)) = some (some (.agg #[.bool false, .slice none 0 0, .slice none 0 0, .bool false, .int .i64 0, .int .i64 0]), 6, 80) := by kernel_rfl
theorem ones_six {s fine : Bool} {A1 A2 : Option Addr} {k1 c1 k2 c2 : Nat} {fn fd : Int} : ∀ u ∈ six s (.slice A1 k1 c1) (.slice A2 k2 c2) fine fn fd, u.oneCell' = true := by
  intro u hu
  simp only [six, List.mem_cons, List.not_mem_nil, or_false] at hu
  rcases hu with rfl | rfl | rfl | rfl | rfl | rfl <;> rfl
theorem news_six (w : World) (t : TypeId) {u0 u1 u2 u3 u4 u5 : Value} {g : Nat} (hg : g = w.heap.size) : ∀ (j : Nat) (x : Value), [u0, u1, u2, u3, u4, u5][j]? = some x → (w.alloc (.cells #[u0, u1, u2, u3, u4, u5] t)).cell? ((⟨g, 0, none⟩ : Addr).add j) = some x := by
  subst hg
  intro j x hx
  have e : (#[u0, u1, u2, u3, u4, u5] : Array Value)[j]? = some x := by rw [← Array.getElem?_toList]; exact hx
  rw [Addr.add_lit]
  exact (World.cell?_alloc_new w #[u0, u1, u2, u3, u4, u5] t (0 + j)).trans (by rw [Nat.zero_add]; exact e)
/-- digits stay as they are while a row of another type grows -/
theorem IsB.kept {w w' : World} {B size n x : Nat} {t : TypeId} {u v : Value} {xs : List Value} (h : IsB w x u) (hr : w.ownsRow B t size v n xs) (ht : t ≠ 2) (hg : w.grownBy w' v.ownBlock) : IsB w' x u :=
  World.ownsRow.kept h hg (own_ne h hr (fun e => ht e.symm))
theorem Parts.kept {w w' : World} {q : Rat} {m : Nat} {s : Bool} {vn vd : Value} {fine : Bool} {fn fd : Int} {nn dd : Nat} {B size n : Nat} {t : TypeId} {v : Value} {xs : List Value} (h : Parts w q m s vn vd fine fn fd nn dd) (hr : w.ownsRow B t size v n xs) (ht : t ≠ 2) (hg : w.grownBy w' v.ownBlock) : Parts w' q m s vn vd fine fn fd nn dd :=
  ⟨IsB.kept h.num hr ht hg, IsB.kept h.den hr ht hg, h.pos, h.val, h.ln, h.ld, h.small⟩
/-- an element is pushed -/
theorem OwnW.push {wr w1 w2 : World} {B n m : Nat} {v v' : Value} {f : Nat → Rat} {cs : List Value} {s fine : Bool} {A1 A2 : Option Addr} {k1 c1 k2 c2 nn dd : Nat} {fn fd : Int} {ca : Array Value} {t : TypeId} (h : OwnW wr B v n f m cs) (h1 : Below wr.heap.size wr w1)
    (hp : Parts w1 (f n) m s (.slice A1 k1 c1) (.slice A2 k2 c2) fine fn fd nn dd) (hown : w2.ownsRow B 81 6 v' (n + 1) (cs ++ six s (.slice A1 k1 c1) (.slice A2 k2 c2) fine fn fd)) (hg : (w1.alloc (.cells ca t)).grownBy w2 v.ownBlock) :
    OwnW w2 B v' (n + 1) f m (cs ++ six s (.slice A1 k1 c1) (.slice A2 k2 c2) fine fn fd) := by
  have hb2 : Below w1.heap.size w1 (w1.alloc (.cells ca t)) := (Below.refl _ _).alloc (Nat.le_refl _) _
  have hA := (h.below h1).below hb2
  have hlen : cs.length = n * 6 := h.row.1
  refine ⟨hown, fun i hi => ?_⟩
  rcases Nat.lt_or_ge i n with hlt | hge
  · obtain ⟨s', B1, j1, e1, B2, j2, e2, fi, gn, gd, n', d', e, hp'⟩ := hA.els i hlt
    refine ⟨s', B1, j1, e1, B2, j2, e2, fi, gn, gd, n', d', ?_, hp'.kept hA.row (by decide) hg⟩
    rw [List.drop_append_of_le_length (by omega), List.take_append_of_le_length (by rw [List.length_drop]; omega)]
    exact e
  · obtain rfl : i = n := by omega
    refine ⟨s, A1, k1, c1, A2, k2, c2, fine, fn, fd, nn, dd, ?_, (hp.below hb2).kept hA.row (by decide) hg⟩
    rw [List.drop_append, List.drop_of_length_le (by omega), hlen, Nat.sub_self]
    rfl
theorem OwnW.nil (w : World) (B : Nat) (f : Nat → Rat) (m : Nat) : OwnW w B (.slice none 0 0) 0 f m [] := ⟨World.ownsRow_nil w B _ 6, fun i hi => absurd hi (Nat.not_lt_zero i)⟩
theorem OwnW.lit0 (w : World) (f : Nat → Rat) (m : Nat) : OwnW (w.alloc (.cells #[] 81)) w.heap.size (.slice (some ⟨w.heap.size, 0, none⟩) 0 0) 0 f m [] :=
  ⟨World.ownsRow_made w #[] 0 (Nat.le_refl _) (Nat.zero_le _) (by simp), fun i hi => absurd hi (Nat.not_lt_zero i)⟩
/-- a list that is returned -/
def WsRet (n : Nat) (f : Nat → Rat) (m : Nat) (w : World) (e : Ending) (w' : World) : Prop := ∃ v cs, e = .returned v ∧ OwnW w' w.heap.size v n f m cs ∧ Below w.heap.size w w'
end Go.Proofs.YtionognmgcabbaaGreat.Wide
/- Lists of the reference's naturals in memory. -/
namespace Go.Proofs.YtionognmgcabbaaGreat.Big
open Go.RowKit Go.Proofs.YtionognmgcabbaaGreat Go.Proofs.YtionognmgcabbaaGreat.Base Go.Proofs.YtionognmgcabbaaGreat.Mem Go.Proofs.YtionognmgcabbaaGreat.BigM Go.Proofs.YtionognmgcabbaaGreat.Blk
set_option linter.unusedVariables false
/-- the n elements of a row of the call's own are the numbers f -/
structure OwnB (w : World) (B : Nat) (v : Value) (n : Nat) (f : Nat → Nat) (us : List Value) : Prop where
  row : w.ownsRow B 79 1 v n us
  els : ∀ i, i < n → ∃ u, us[i]? = some u ∧ IsB w (f i) u
theorem OwnB.below {w w' : World} {B n : Nat} {v : Value} {f : Nat → Nat} {us : List Value} (h : OwnB w B v n f us) (hb : Below w.heap.size w w') : OwnB w' B v n f us :=
  ⟨ownsRow_below h.row hb, fun i hi => by
    obtain ⟨u, e, h1⟩ := h.els i hi
    exact ⟨u, e, h1.below hb⟩⟩
theorem OwnB.form {w : World} {B n : Nat} {v : Value} {f : Nat → Nat} {us : List Value} (h : OwnB w B v n f us) : ∃ A c, v = .slice A n c ∧ (0 < n → ∃ g, A = some ⟨g, 0, none⟩ ∧ B ≤ g ∧ g < w.heap.size) := ownsRow_form h.row
theorem OwnB.base {w : World} {B B' n : Nat} {v : Value} {f : Nat → Nat} {us : List Value} (h : OwnB w B v n f us) (hB : B' ≤ B) : OwnB w B' v n f us := ⟨ownsRow_base h.row hB, h.els⟩
theorem OwnB.congr {w : World} {B n : Nat} {v : Value} {f f' : Nat → Nat} {us : List Value} (h : OwnB w B v n f us) (hf : ∀ i, i < n → f i = f' i) : OwnB w B v n f' us :=
  ⟨h.row, fun i hi => by rw [← hf i hi]; exact h.els i hi⟩
/-- an element is read -/
theorem OwnB.at {w : World} {B n c : Nat} {A : Option Addr} {f : Nat → Nat} {us : List Value} (h : OwnB w B (.slice A n c) n f us) {i : Nat} (hi : i < n) : ∃ g A1 c1, A = some ⟨g, 0, none⟩ ∧ g < w.heap.size ∧ w.cell? ⟨g, i, none⟩ = some (.slice A1 (bigL (f i)).length c1) ∧ IsB w (f i) (.slice A1 (bigL (f i)).length c1) := by
  obtain ⟨A', c', e, hf⟩ := h.form
  injection e with e1 e2 e3
  subst e1 e3
  obtain ⟨g, rfl, _, hlt⟩ := hf (by omega)
  obtain ⟨u, e, h1⟩ := h.els i hi
  obtain ⟨A1, c1, rfl, _⟩ := Dig.form h1
  have hlen : us.length = n := by have := h.row.1; omega
  exact ⟨g, A1, c1, rfl, hlt, by rw [World.ownsRow.cellAt h.row i (by omega)]; exact e, h1⟩
theorem OwnB.push {wr w1 w2 : World} {B n : Nat} {v v' u : Value} {f : Nat → Nat} {us : List Value} {ca : Array Value} {t : TypeId} (h : OwnB wr B v n f us) (h1 : Below wr.heap.size wr w1) (hu : IsB w1 (f n) u)
    (hown : w2.ownsRow B 79 1 v' (n + 1) (us ++ [u])) (hg : (w1.alloc (.cells ca t)).grownBy w2 v.ownBlock) : OwnB w2 B v' (n + 1) f (us ++ [u]) := by
  have hb2 : Below w1.heap.size w1 (w1.alloc (.cells ca t)) := (Below.refl _ _).alloc (Nat.le_refl _) _
  have hA := (h.below h1).below hb2
  have hlen : us.length = n := by have := h.row.1; omega
  refine ⟨hown, fun i hi => ?_⟩
  rcases Nat.lt_or_ge i n with hlt | hge
  · obtain ⟨u', e, hx⟩ := hA.els i hlt
    exact ⟨u', by rw [List.getElem?_append_left (by omega)]; exact e, Wide.IsB.kept hx hA.row (by decide) hg⟩
  · obtain rfl : i = n := by omega
    exact ⟨u, by rw [List.getElem?_append_right (by omega), hlen, Nat.sub_self]; rfl, Wide.IsB.kept (hu.below hb2) hA.row (by decide) hg⟩
theorem OwnB.lit0 (w : World) (f : Nat → Nat) : OwnB (w.alloc (.cells #[] 79)) w.heap.size (.slice (some ⟨w.heap.size, 0, none⟩) 0 0) 0 f [] :=
  ⟨World.ownsRow_made w #[] 0 (Nat.le_refl _) (Nat.zero_le _) (by simp), fun i hi => absurd hi (Nat.not_lt_zero i)⟩
theorem infoBg : (Tryz.prog.info? 79).map (fun i => (i.zero, i.size, i.bytes)) = some (some (.slice none 0 0), 1, 24) := by kernel_rfl
/-- the loop's state: a list that grows -/
def GrB (N : Nat) (f : Nat → Nat) (w : World) (ov jv : Value) (wr : World) : Prop :=
  ∃ (j : Nat) (us : List Value), jv = .int .i64 (j : Int) ∧ j ≤ N ∧ Hid (OwnB wr w.heap.size ov j f us) ∧ Hid (Below w.heap.size w wr)
theorem GrB.start (N : Nat) (f : Nat → Nat) (w : World) : GrB N f w (.slice (some ⟨w.heap.size, 0, none⟩) 0 0) (.int .i64 0) (w.alloc (.cells #[] 79)) :=
  ⟨0, [], rfl, Nat.zero_le _, Lib.hid (OwnB.lit0 w f), Lib.hid ((Below.refl _ _).alloc (Nat.le_refl _) _)⟩
theorem GrB.next {N j : Nat} {f : Nat → Nat} {w wr w1 w2 : World} {v v' u : Value} {us : List Value} {ca : Array Value} {t : TypeId} (hj : j < N) (h : OwnB wr w.heap.size v j f us) (hb : Below w.heap.size w wr) (h1 : Below wr.heap.size wr w1) (hu : IsB w1 (f j) u)
    (hown : w2.ownsRow w.heap.size 79 1 v' (j + 1) (us ++ [u])) (hg : (w1.alloc (.cells ca t)).grownBy w2 v.ownBlock) : GrB N f w v' (.int .i64 ((j : Int) + 1)) w2 := by
  have hb1 : Below wr.heap.size wr (w1.alloc (.cells ca t)) := h1.alloc h1.size _
  refine ⟨j + 1, _, by simp, hj, Lib.hid (h.push h1 hu hown hg), Lib.hid ?_⟩
  exact (hb.trans (hb1.mono hb.size)).trans (grown_below hg (fun g e => (ownsRow_block h.row e).choose_spec.2.1) (Nat.le_trans hb.size hb1.size))
/-- the number that digits in memory say -/
def numB (w : World) : Value → Nat
  | .slice (some a) n _ => val ((List.range n).map fun i => match w.cell? ⟨a.block, i, none⟩ with
    | some (.int _ x) => x.toNat
    | _ => 0)
  | _ => 0
theorem numB_eq {w : World} {x c : Nat} {A : Option Addr} (h : IsB w x (.slice A (bigL x).length c)) : numB w (.slice A (bigL x).length c) = x := by
  rcases Nat.eq_zero_or_pos (bigL x).length with h0 | h0
  · have e := List.length_eq_zero_iff.1 h0
    have hx := bigL_val x
    rw [e] at hx ⊢
    have hx0 : x = 0 := hx.symm
    cases A <;> simp [numB, val, hx0]
  · obtain ⟨g, rfl, _, _, _⟩ := Dig.cell h h0
    show val _ = x
    have key : (List.range (bigL x).length).map (fun i => match w.cell? ⟨g, i, none⟩ with
      | some (.int _ x) => x.toNat
      | _ => 0) = bigL x := by
      refine List.ext_getElem (by simp) fun i h1 h2 => ?_
      simp only [List.getElem_map, List.getElem_range]
      obtain ⟨g', e, _, _, hc⟩ := Dig.cell h h2
      injection e with e
      injection e with e _ _
      subst e
      rw [hc]
      simp [List.getD, h2]
    rw [key, bigL_val]
attribute [irreducible] numB
end Go.Proofs.YtionognmgcabbaaGreat.Big
/- Plain: fractions over one denominator. -/
namespace Go.Proofs.YtionognmgcabbaaGreat.ComM
open Go.RowKit Go.Proofs.YtionognmgcabbaaGreat Go.Proofs.YtionognmgcabbaaGreat.Base Go.Proofs.YtionognmgcabbaaGreat.RatM Go.Proofs.YtionognmgcabbaaGreat.GaussM Go.Proofs.YtionognmgcabbaaGreat.ChM Go.Proofs.YtionognmgcabbaaGreat.BigM Go.Proofs.YtionognmgcabbaaGreat.Ratio
set_option linter.unusedVariables false
/-- the denominator of element i -/
def dn (fs : List Int) (i : Nat) : Nat := (fs.getD (2 * i + 1) 0).toNat
def nm (fs : List Int) (i : Nat) : Nat := (fs.getD (2 * i) 0).toNat
/-- the denominator of the first n -/
def comD (fs : List Int) : Nat → Nat
  | 0 => 1
  | n + 1 => comD fs n * (dn fs n / Nat.gcd (comD fs n) (dn fs n))
def comN (fs : List Int) (n i : Nat) : Nat := nm fs i * (comD fs n / dn fs i)
theorem dn_pos {fs : List Int} {n i : Nat} (h : AllVF fs n) (hi : i < n) : 0 < dn fs i ∧ dn fs i ≤ 1000000000000000000 := by
  have h1 := (h i hi).1
  have h2 := (h i hi).2.1
  unfold dn
  omega
theorem comD_pos {fs : List Int} : ∀ {n : Nat}, AllVF fs n → 0 < comD fs n
  | 0, _ => Nat.one_pos
  | n + 1, h => by
    have ih := comD_pos (n := n) fun i hi => h i (by omega)
    have h1 := (dn_pos h (show n < n + 1 by omega)).1
    have hg : 0 < Nat.gcd (comD fs n) (dn fs n) := Nat.gcd_pos_of_pos_right _ h1
    exact Nat.mul_pos ih (Nat.div_pos (Nat.gcd_le_right _ h1) hg)
theorem comD_le {fs : List Int} : ∀ {n : Nat}, AllVF fs n → comD fs n ≤ denP fs n
  | 0, _ => Nat.le_refl _
  | n + 1, h => Nat.mul_le_mul (comD_le fun i hi => h i (by omega)) (Nat.div_le_self _ _)
theorem dvd_step {a d : Nat} : d ∣ a * (d / Nat.gcd a d) := by
  have h1 := Nat.gcd_dvd_left a d
  have h2 := Nat.gcd_dvd_right a d
  obtain ⟨k, hk⟩ := h1
  refine ⟨k, ?_⟩
  have : a * (d / Nat.gcd a d) = (Nat.gcd a d * k) * (d / Nat.gcd a d) := by rw [← hk]
  rw [this, Nat.mul_comm (Nat.gcd a d) k, Nat.mul_assoc, Nat.mul_div_cancel' h2, Nat.mul_comm]
theorem comD_dvd {fs : List Int} : ∀ {n i : Nat}, i < n → dn fs i ∣ comD fs n
  | 0, _, h => absurd h (Nat.not_lt_zero _)
  | n + 1, i, h => by
    rcases Nat.lt_or_ge i n with h1 | h1
    · exact Nat.dvd_trans (comD_dvd h1) (Nat.dvd_mul_right _ _)
    · obtain rfl : i = n := by omega
      exact dvd_step
/-- the numbers over the denominator are the fractions -/
theorem com_val {fs : List Int} {n i : Nat} (h : AllVF fs n) (hp : 0 ≤ fs.getD (2 * i) 0) (hi : i < n) : qv false (comN fs n i) (comD fs n) = fq fs i := by
  obtain ⟨h1, _⟩ := dn_pos h hi
  have hD := comD_pos h
  obtain ⟨k, hk⟩ := comD_dvd (fs := fs) hi
  have hk0 : k ≠ 0 := fun e => by rw [e, Nat.mul_zero] at hk; omega
  have e1 : comN fs n i = nm fs i * k := by unfold comN; rw [hk, Nat.mul_div_cancel_left k h1]
  have e2 : fq fs i = qv false (nm fs i) (dn fs i) := by
    unfold fq qf nm dn
    rw [decide_eq_false (by omega), show (fs.getD (2 * i) 0).natAbs = (fs.getD (2 * i) 0).toNat by omega]
  rw [e1, e2, hk]
  unfold qv
  simp only [Bool.false_eq_true, if_false]
  rw [Rat.natCast_mul, Rat.natCast_mul]
  have hd0 : ((dn fs i : Nat) : Rat) ≠ 0 := natCast_ne (by omega)
  have hkr : ((k : Nat) : Rat) ≠ 0 := natCast_ne hk0
  grind
theorem nm_le {fs : List Int} {n i : Nat} (h : AllVF fs n) (hi : i < n) : nm fs i ≤ 1000000000000000000 := by
  have := (h i hi).2.2.2.1
  unfold nm
  omega
/-- how many digits -/
theorem len_ten {x k : Nat} (h : x ≤ 1000000000000000000 ^ k) : (bigL x).length ≤ 2 * k + 1 := by
  refine bigL_len_le (Nat.lt_of_le_of_lt h ?_)
  have h1 : (1000000000000000000 : Nat) ^ k ≤ (D30 ^ 2) ^ k := Nat.pow_le_pow_left (by decide) k
  rw [← Nat.pow_mul] at h1
  exact Nat.lt_of_le_of_lt h1 (Nat.pow_lt_pow_right (by decide) (Nat.lt_succ_self _))
theorem comD_len {fs : List Int} {n : Nat} (h : AllVF fs n) : (bigL (comD fs n)).length ≤ 2 * n + 1 := len_ten (Nat.le_trans (comD_le h) (denP_le h))
theorem comN_len {fs : List Int} {n i : Nat} (h : AllVF fs n) (hi : i < n) : (bigL (comN fs n i)).length ≤ 2 * (n + 1) + 1 := by
  refine len_ten ?_
  have h1 : comN fs n i ≤ 1000000000000000000 * comD fs n := Nat.mul_le_mul (nm_le h hi) (Nat.div_le_self _ _)
  have h2 := Nat.le_trans (comD_le h) (denP_le h)
  rw [Nat.pow_succ, Nat.mul_comm (_ ^ n)]
  exact Nat.le_trans h1 (Nat.mul_le_mul_left _ h2)
/-- Euclid's steps -/
theorem gcd_step {a d x y : Nat} (hy : 0 < y) (h : Nat.gcd x y = Nat.gcd a d) : Nat.gcd y (x % y) = Nat.gcd a d := by
  rw [← h, Nat.gcd_comm x y, Nat.gcd_rec y x, Nat.gcd_comm]
end Go.Proofs.YtionognmgcabbaaGreat.ComM
/- The reference: fractions over one denominator. -/
namespace Go.Proofs.YtionognmgcabbaaGreat.ComS
open Go.RowKit Go.Proofs.YtionognmgcabbaaGreat Go.Proofs.YtionognmgcabbaaGreat.Base Go.Proofs.YtionognmgcabbaaGreat.Mem Go.Proofs.YtionognmgcabbaaGreat.BigM Go.Proofs.YtionognmgcabbaaGreat.Big Go.Proofs.YtionognmgcabbaaGreat.Blk Go.Proofs.YtionognmgcabbaaGreat.MemF Go.Proofs.YtionognmgcabbaaGreat.ChM Go.Proofs.YtionognmgcabbaaGreat.ComM Go.Proofs.YtionognmgcabbaaGreat.RatM
set_option linter.unusedVariables false
/-- numbers that are returned, and their denominator -/
def ComRet (n : Nat) (f : Nat → Nat) (D : Nat) (w : World) (e : Ending) (w' : World) : Prop := ∃ A c us u, e = .returned (.tuple #[.slice A n c, u]) ∧ OwnB w' w.heap.size (.slice A n c) n f us ∧ IsB w' D u ∧ Below w.heap.size w w'
theorem bigL_len_mono {x y : Nat} (h : x ≤ y) : (bigL x).length ≤ (bigL y).length := by
  rcases Nat.lt_or_ge (bigL y).length (bigL x).length with h1 | h1
  · have := bigL_len_lt h1; omega
  · exact h1
def DnRel (fs : List Int) (n : Nat) (w : World) (dv iv : Value) (wr : World) : Prop :=
  ∃ (i : Nat), iv = .int .i64 (i : Int) ∧ i ≤ n ∧ ∃ A c, dv = .slice A (bigL (comD fs i)).length c ∧ Hid (IsB wr (comD fs i) (.slice A (bigL (comD fs i)).length c)) ∧ Hid (Below w.heap.size w wr)
def EuRel (a d : Nat) (w : World) (xv yv : Value) (wr : World) : Prop :=
  ∃ x y A c A' c', xv = .slice A (bigL x).length c ∧ yv = .slice A' (bigL y).length c' ∧ Hid (IsB wr x (.slice A (bigL x).length c)) ∧ Hid (IsB wr y (.slice A' (bigL y).length c')) ∧ Hid (Nat.gcd x y = Nat.gcd a d) ∧ Hid (x ≤ a ∨ x ≤ d) ∧ Hid (y ≤ d) ∧ Hid (Below w.heap.size w wr)
set_option maxHeartbeats 2000000 in
set_option maxRecDepth 100000 in
theorem comS_any {A : Option Addr} {c B n : Nat} {fs : List Int} (w : World) (hx : RdF w B A n fs) (hB : B ≤ w.heap.size) (hv : AllVF fs n) (hp : ∀ i, i < n → 0 ≤ fs.getD (2 * i) 0) (hn : n ≤ 1000) : Calls Tryz.prog 97 #[.slice A n c] w (ComRet n (comN fs n) (comD fs n) w) := by
  have HX := Lib.hid (hx.more hB)
  have HV := Lib.hid hv
  have HP := Lib.hid hp
  obtain ⟨ig, gi, gz0, gz1, gz2⟩ := info_parts infoBg
  clear hx hv hp
  go_enter Tryz.func97, Tryz.ntmps97
  go_wp2_with fail
  refine (bigOf_any 1 (by decide) _).mono ?_
  rintro e w1 ⟨v, rfl, hv, hb1⟩
  obtain ⟨A1, c1, rfl, _⟩ := Dig.form hv
  have H0 : Hid (DnRel fs n w (.slice A1 (bigL 1).length c1) (.int .i64 0) w1) := Lib.hid ⟨0, rfl, Nat.zero_le _, A1, c1, rfl, Lib.hid hv, Lib.hid hb1⟩
  clear hv hb1
  generalize (bigL 1).length = l1 at *
  go_wp2
  go_loopw [4, 5] (fun dv iv wr => DnRel fs n w dv iv wr) (fun _ iv _ => n - (intOf iv).toNat)
  case atStart => exact H0.out
  case round =>
    obtain ⟨i, rfl, hi, A2, c2, rfl, HD, HB⟩ := hrel
    clear H0
    by_cases hlt : i < n
    · obtain ⟨b, off, rfl, hbl, g1, g2⟩ := (HX.out.below HB.out (Nat.le_refl _)).at hlt
      obtain ⟨d, hd⟩ : ∃ d, d = dn fs i := ⟨_, rfl⟩
      have hdc : fs.getD (2 * i + 1) 0 = (d : Int) := by rw [hd]; unfold dn; have := (HV.out i hlt).1; omega
      obtain ⟨hd0, hd1⟩ := dn_pos HV.out hlt
      rw [← hd] at hd0 hd1
      rw [hdc] at g2
      have HND : Hid (comD fs (i + 1) = comD fs i * (d / Nat.gcd (comD fs i) d)) := Lib.hid (by rw [hd]; rfl)
      have hDl := comD_len (fs := fs) (n := i) (fun j hj => HV.out j (by omega))
      have hDp := comD_pos (fs := fs) (n := i) (fun j hj => HV.out j (by omega))
      have HBO := Lib.hid (fun W => bigOf_any d (by omega) W)
      have hdl : (bigL d).length ≤ 3 := len_ten (k := 1) (by rw [Nat.pow_one]; exact hd1)
      have hbw : b < wr.heap.size := Nat.lt_of_lt_of_le hbl HB.out.size
      clear hdc hd g1
      generalize comD fs i = D at *
      go_wp2_with fail
      refine (HBO.out _).mono ?_
      rintro e w2 ⟨v, rfl, hv, hb2⟩
      obtain ⟨A3, c3, rfl, _⟩ := Dig.form hv
      obtain ⟨w0, rfl⟩ : ∃ x, x = wr := ⟨_, rfl⟩
      have H1 : Hid (EuRel D d w0 (.slice A2 (bigL D).length c2) (.slice A3 (bigL d).length c3) w2) := Lib.hid ⟨D, d, A2, c2, A3, c3, rfl, rfl, Lib.hid (HD.out.below hb2), Lib.hid hv, Lib.hid rfl, Lib.hid (.inl (Nat.le_refl _)), Lib.hid (Nat.le_refl _), Lib.hid hb2⟩
      clear hv hb2
      go_wp2
      go_loopw [6, 7] (fun xv yv w3 => EuRel D d w0 xv yv w3) (fun _ yv w3 => numB w3 yv)
      case atStart => exact H1.out
      case round =>
        obtain ⟨x, y, A4, c4, A5, c5, rfl, rfl, hX, hY, hG, hxl, hyl, hB3⟩ := hrel
        clear H1
        have hx61 : (bigL x).length ≤ 2 * i + 4 := by
          rcases hxl.out with h | h
          · exact Nat.le_trans (bigL_len_mono h) (by omega)
          · exact Nat.le_trans (bigL_len_mono h) (by omega)
        by_cases hpos : 0 < y
        · have hly := len_pos hpos
          have hSP := Lib.hid (bigSplit_any wr hX.out hY.out (by omega) hpos)
          go_wp2_with fail
          refine hSP.out.mono ?_
          rintro e w4 ⟨v, u, rfl, hv, hu, hb4⟩
          obtain ⟨A6, c6, rfl, _⟩ := Dig.form hv
          obtain ⟨A7, c7, rfl, _⟩ := Dig.form hu
          have hlt := Nat.mod_lt x hpos
          have HN : Hid (EuRel D d w0 (.slice A5 (bigL y).length c5) (.slice A7 (bigL (x % y)).length c7) w4) := Lib.hid ⟨y, x % y, A5, c5, A7, c7, rfl, rfl, Lib.hid (hY.out.below hb4), Lib.hid hu, Lib.hid (gcd_step hpos hG.out), Lib.hid (.inr hyl.out), Lib.hid (Nat.le_trans (Nat.le_of_lt hlt) hyl.out), Lib.hid (Base.Below.nextA hB3.out hb4)⟩
          have HM : Hid (numB w4 (.slice A7 (bigL (x % y)).length c7) < numB wr (.slice A5 (bigL y).length c5)) := Lib.hid (by rw [numB_eq hu, numB_eq hY.out]; exact hlt)
          clear hv hu hb4 hSP hX hY hG hxl hyl hB3
          go_wp2
          go_roundw
          case rel => exact HN.out
          case measure => exact HM.out
        · obtain rfl : y = 0 := by omega
          have hl0 : (bigL 0).length = 0 := by rw [bigL_zero]; rfl
          have hxg : Nat.gcd D d = x := by have := hG.out; rw [Nat.gcd_zero_right] at this; exact this.symm
          have hx0 : 0 < x := by rw [← hxg]; exact Nat.gcd_pos_of_pos_right _ hd0
          have g2' := (hB3.out.cell (p := ⟨b, off + i * 2 + 1, none⟩) hbw).trans g2
          have HXG := Lib.hid hxg
          have hb3s := hB3.out.size
          have HDD := Lib.hid (HD.out.below hB3.out)
          clear hxg hY hG hxl hyl g2
          rw [hl0]
          go_wp2_with fail
          refine (HBO.out _).mono ?_
          rintro e w4 ⟨v, rfl, hv, hb4⟩
          obtain ⟨A6, c6, rfl, _⟩ := Dig.form hv
          have hSP := Lib.hid (bigSplit_any w4 hv (hX.out.below hb4) (by omega) hx0)
          have HB4 := Lib.hid (Base.Below.nextA hB3.out hb4)
          have HD4 := Lib.hid (HDD.out.below hb4)
          clear hv hb4 hX HDD
          go_wp2_with fail
          refine hSP.out.mono ?_
          rintro e w5 ⟨v, u, rfl, hv, hu, hb5⟩
          obtain ⟨A7, c7, rfl, _⟩ := Dig.form hv
          obtain ⟨A8, c8, rfl, _⟩ := Dig.form hu
          have hq3 : (bigL (d / x)).length ≤ 3 := Nat.le_trans (bigL_len_mono (Nat.div_le_self _ _)) hdl
          have hTI := Lib.hid (bigTimes_any w5 (HD4.out.below hb5) hv (by omega) (by omega))
          have HB5 := Lib.hid (Base.Below.nextA HB4.out hb5)
          clear hv hu hb5 hSP HD4 HB4
          go_wp2_with fail
          refine hTI.out.mono ?_
          rintro e w6 ⟨v, rfl, hv, hb6⟩
          obtain ⟨A9, c9, rfl, _⟩ := Dig.form hv
          have HN : Hid (DnRel fs n w (.slice A9 (bigL (D * (d / x))).length c9) (.int .i64 ((i : Int) + 1)) w6) := Lib.hid (by
            have e : comD fs (i + 1) = D * (d / x) := by rw [HND.out, HXG.out]
            refine ⟨i + 1, by simp, hlt, A9, c9, by rw [e], Lib.hid (by rw [e]; exact hv), Lib.hid (Base.Below.nextA HB.out (Base.Below.nextA HB5.out hb6))⟩)
          clear hv hb6 hTI HB5 HB HND HXG HD
          go_wp2
          go_roundw
          case rel => exact HN.out
          case measure => simp [intOf]; omega
    · obtain rfl : i = n := by omega
      have hDl := comD_len HV.out
      obtain ⟨D, hDe⟩ : ∃ D, D = comD fs i := ⟨_, rfl⟩
      rw [← hDe] at hDl HD ⊢
      have HDE := Lib.hid hDe
      clear hDe
      obtain ⟨w1', rfl⟩ : ∃ x, x = wr := ⟨_, rfl⟩
      have H1 := Lib.hid (GrB.start i (comN fs i) w1')
      go_wp2
      go_loopw [12, 13] (fun ov jv w2 => GrB i (comN fs i) w1' ov jv w2) (fun _ jv _ => i - (intOf jv).toNat)
      case atStart => exact H1.out
      case round =>
        obtain ⟨j, us, rfl, hj, HO, HB2⟩ := hrel
        clear H1
        by_cases hlt2 : j < i
        · obtain ⟨b, off, rfl, hbl, g1, g2⟩ := (HX.out.below (Base.Below.nextA HB.out HB2.out) (Nat.le_refl _)).at hlt2
          obtain ⟨d, hd⟩ : ∃ d, d = dn fs j := ⟨_, rfl⟩
          obtain ⟨m, hm⟩ : ∃ m, m = nm fs j := ⟨_, rfl⟩
          have hdc : fs.getD (2 * j + 1) 0 = (d : Int) := by rw [hd]; unfold dn; have := (HV.out j hlt2).1; omega
          have hmc : fs.getD (2 * j) 0 = (m : Int) := by rw [hm]; unfold nm; have := HP.out j hlt2; omega
          obtain ⟨hd0, hd1⟩ := dn_pos HV.out hlt2
          have hm1 := nm_le HV.out hlt2
          have hNl := comN_len HV.out hlt2
          have HNE : Hid (comN fs i j = m * (D / d)) := Lib.hid (by rw [hm, hd, HDE.out]; rfl)
          rw [← hd] at hd0 hd1
          rw [← hm] at hm1
          rw [hdc] at g2
          rw [hmc] at g1
          have hml : (bigL m).length ≤ 3 := len_ten (k := 1) (by rw [Nat.pow_one]; exact hm1)
          have HBd := Lib.hid (fun W => bigOf_any d (by omega) W)
          have HBm := Lib.hid (fun W => bigOf_any m (by omega) W)
          have hbw : b < wr.heap.size := Nat.lt_of_lt_of_le hbl (Nat.le_trans HB.out.size HB2.out.size)
          have HDD := Lib.hid (HD.out.below HB2.out)
          have hsz := HB2.out.size
          clear hdc hmc hd hm
          go_wp2_with fail
          refine (HBd.out _).mono ?_
          rintro e w4 ⟨v, rfl, hv, hb4⟩
          obtain ⟨A6, c6, rfl, _⟩ := Dig.form hv
          have hSP := Lib.hid (bigSplit_any w4 (HDD.out.below hb4) hv (by omega) hd0)
          have HB4 := Lib.hid hb4
          clear hv hb4
          go_wp2_with fail
          refine hSP.out.mono ?_
          rintro e w5 ⟨v, u, rfl, hv, hu, hb5⟩
          obtain ⟨A7, c7, rfl, _⟩ := Dig.form hv
          obtain ⟨A8, c8, rfl, _⟩ := Dig.form hu
          have HB5 := Lib.hid (Base.Below.nextA HB4.out hb5)
          have HQ := Lib.hid hv
          have g1' := (HB5.out.cell (p := ⟨b, off + j * 2, none⟩) hbw).trans g1
          clear hv hu hb5 hSP HB4 g1
          go_wp2_with fail
          refine (HBm.out _).mono ?_
          rintro e w6 ⟨v, rfl, hv, hb6⟩
          obtain ⟨A9, c9, rfl, _⟩ := Dig.form hv
          have hq3 : (bigL (D / d)).length ≤ 2 * i + 1 := Nat.le_trans (bigL_len_mono (Nat.div_le_self _ _)) hDl
          have hTI := Lib.hid (bigTimes_any w6 hv (HQ.out.below hb6) (by omega) (by omega))
          have HB6 := Lib.hid (Base.Below.nextA HB5.out hb6)
          clear hv hb6 HQ HB5
          go_wp2_with fail
          refine hTI.out.mono ?_
          rintro e w7 ⟨v, rfl, hv, hb7⟩
          have hb8 := Base.Below.nextA HB6.out hb7
          have hs7 := hb8.size
          have HN := Lib.hid (fun w3 v' ca t hown hg => GrB.next (w2 := w3) (v' := v') (ca := ca) (t := t) hlt2 HO.out HB2.out hb8 (by rw [HNE.out]; exact hv) hown hg)
          obtain ⟨A10, c10, rfl, _⟩ := Dig.form hv
          have HOA := Lib.hid (World.ownsRow.alloc (ownsRow_below HO.out.row hb8) (.cells #[.slice A10 (bigL (m * (D / d))).length c10] 79))
          clear hv hb7 hb8 HO HB2 HB6 hTI HDD HNE
          go_wp2_with (at_builtin; refine wpList_append_own_at _ rfl (.tmp 73) (.tmp 82) 126 rfl w1'.heap.size 79 ig (.slice none 0 0) 1 24 Tryz.underlying126 gi gz0 gz1 gz2 rfl (by decide) _ _ _ rfl HOA.out ⟨w7.heap.size, 0, none⟩ 1 1 [.slice A10 (bigL (m * (D / d))).length c10] rfl rfl ?p1b ?p2b ?p3b ?p4b ?p5b ?_)
          try case p1b => exact news_one _ _ _ (by simp)
          try case p2b => (intro u hu; simp only [List.mem_cons, List.not_mem_nil, or_false] at hu; subst hu; rfl)
          try case p3b => first | (simp only [maxLen]; omega) | omega
          try case p4b => omega
          try case p5b => first | (simp only [World.size_alloc]; omega) | omega
          intro v' w8 hown' hg' _ he
          have HN3 := Lib.hid (HN.out w8 v' _ _ hown' hg')
          clear hown' hg' he HN HOA
          go_wp2
          go_roundw
          case rel => exact HN3.out
          case measure => simp [intOf]; omega
        · obtain rfl : j = i := by omega
          obtain ⟨A9, c9, rfl, _⟩ := HO.out.form
          have HF : Hid (ComRet j (comN fs j) (comD fs j) w (.returned (.tuple #[.slice A9 j c9, .slice A2 (bigL D).length c2])) wr) := Lib.hid ⟨A9, c9, us, _, rfl, HO.out.base HB.out.size, by rw [← HDE.out]; exact HD.out.below HB2.out, HB.out.trans (HB2.out.mono HB.out.size)⟩
          clear HO HB2 HD HB
          go_wp2
          go_ret2
          exact HF.out
end Go.Proofs.YtionognmgcabbaaGreat.ComS
/- Plain: a walk's numbers over a denominator. -/
namespace Go.Proofs.YtionognmgcabbaaGreat.ComM
open Go.RowKit Go.Proofs.YtionognmgcabbaaGreat Go.Proofs.YtionognmgcabbaaGreat.Base Go.Proofs.YtionognmgcabbaaGreat.RatM Go.Proofs.YtionognmgcabbaaGreat.GaussM Go.Proofs.YtionognmgcabbaaGreat.ChM Go.Proofs.YtionognmgcabbaaGreat.BigM Go.Proofs.YtionognmgcabbaaGreat.Ratio
set_option linter.unusedVariables false
def sumN : Nat → (Nat → Nat) → Nat
  | 0, _ => 0
  | n + 1, f => sumN n f + f n
/-- the numbers behind a step -/
def stepN (n : Nat) (R v : Nat → Nat) (k : Nat) : Nat := sumN n (fun i => v i * R (i * n + k))
def runN (n : Nat) (R v : Nat → Nat) : Nat → Nat → Nat
  | 0 => v
  | t + 1 => stepN n R (runN n R v t)
theorem sumN_le {n b : Nat} {f : Nat → Nat} (h : ∀ i, i < n → f i ≤ b) : sumN n f ≤ n * b := by
  induction n with
  | zero => simp [sumN]
  | succ n ih =>
    have h1 := ih fun i hi => h i (by omega)
    have h2 := h n (by omega)
    rw [sumN, Nat.add_mul]
    omega
theorem D30_pos : 0 < D30 := by decide
theorem part_lt {n a b i k : Nat} {R v : Nat → Nat} (hn : n ≤ 1000) (hi : i ≤ n) (hv : ∀ i, i < n → v i < D30 ^ a) (hR : ∀ j, j < n * n → R j < D30 ^ b) (hk : k < n) : sumN i (fun i => v i * R (i * n + k)) < D30 ^ (a + b + 1) := by
  have h1 : sumN i (fun i => v i * R (i * n + k)) ≤ i * (D30 ^ a * D30 ^ b) := sumN_le fun j hj => by
    have hjn : j * n + k < n * n := by
      have := Nat.mul_le_mul_right n (show j + 1 ≤ n by omega)
      rw [Nat.add_mul] at this
      omega
    exact Nat.mul_le_mul (Nat.le_of_lt (hv j (by omega))) (Nat.le_of_lt (hR _ hjn))
  refine Nat.lt_of_le_of_lt h1 ?_
  rw [Nat.pow_succ, Nat.pow_add, Nat.mul_comm]
  exact Nat.mul_lt_mul_of_pos_left (by unfold D30; omega) (Nat.mul_pos (Nat.pow_pos D30_pos) (Nat.pow_pos D30_pos))
theorem mul_lt {a b x y : Nat} (hx : x < D30 ^ a) (hy : y < D30 ^ b) : x * y < D30 ^ (a + b) := by
  rw [Nat.pow_add]
  rcases Nat.eq_zero_or_pos y with rfl | h
  · rw [Nat.mul_zero]; exact Nat.mul_pos (Nat.pow_pos D30_pos) (Nat.pow_pos D30_pos)
  · exact Nat.lt_of_lt_of_le ((Nat.mul_lt_mul_right h).2 hx) (Nat.mul_le_mul_left _ (Nat.le_of_lt hy))
theorem part_lt' {n a b i k : Nat} {R v : Nat → Nat} (hn : n ≤ 100) (hi : i ≤ n) (hv : ∀ i, i < n → v i < D30 ^ a) (hR : ∀ i k, i < n → k < n → R (i * n + k) < D30 ^ b) (hk : k < n) : sumN i (fun i => v i * R (i * n + k)) < D30 ^ (a + b + 1) := by
  have h1 : sumN i (fun i => v i * R (i * n + k)) ≤ i * (D30 ^ a * D30 ^ b) := sumN_le fun j hj => Nat.mul_le_mul (Nat.le_of_lt (hv j (by omega))) (Nat.le_of_lt (hR j k (by omega) hk))
  refine Nat.lt_of_le_of_lt h1 ?_
  rw [Nat.pow_succ, Nat.pow_add, Nat.mul_comm]
  exact Nat.mul_lt_mul_of_pos_left (by unfold D30; omega) (Nat.mul_pos (Nat.pow_pos D30_pos) (Nat.pow_pos D30_pos))
theorem run_lt {n a b : Nat} {R v : Nat → Nat} (hn : n ≤ 1000) (hv : ∀ i, i < n → v i < D30 ^ a) (hR : ∀ j, j < n * n → R j < D30 ^ b) : ∀ t k, k < n → runN n R v t k < D30 ^ (a + t * (b + 1))
  | 0, k, hk => by
    rw [Nat.zero_mul]
    exact hv k hk
  | t + 1, k, hk => by
    have := part_lt (a := a + t * (b + 1)) hn (Nat.le_refl n) (fun i hi => run_lt hn hv hR t i hi) hR hk
    have e : a + (t + 1) * (b + 1) = a + t * (b + 1) + b + 1 := by rw [Nat.add_mul]; omega
    rw [e]
    exact this
theorem sumN_cast (n : Nat) (f : Nat → Nat) : ((sumN n f : Nat) : Rat) = sumR n (fun i => ((f i : Nat) : Rat)) := by
  induction n with
  | zero => rfl
  | succ n ih => rw [sumN, sumR, Rat.natCast_add, ih]
/-- numbers over a denominator are rationals -/
def over (x d : Nat) : Rat := (x : Rat) / (d : Rat)
theorem qv_over (x d : Nat) : qv false x d = over x d := rfl
theorem over_step {n dv dR : Nat} {R v : Nat → Nat} {p : Nat → Rat} {M : Nat → Nat → Rat} (h1 : 0 < dv) (h2 : 0 < dR) (hv : ∀ i, i < n → over (v i) dv = p i) (hR : ∀ i k, i < n → k < n → over (R (i * n + k)) dR = M i k) {k : Nat} (hk : k < n) : over (stepN n R v k) (dv * dR) = stepR n M p k := by
  have hv0 : ((dv : Nat) : Rat) ≠ 0 := natCast_ne (by omega)
  have hR0 : ((dR : Nat) : Rat) ≠ 0 := natCast_ne (by omega)
  unfold over stepN stepR
  rw [sumN_cast, Rat.natCast_mul]
  have e : ∀ i, i < n → p i * M i k = ((dv : Rat) * (dR : Rat))⁻¹ * (((v i * R (i * n + k) : Nat) : Nat) : Rat) := fun i hi => by
    rw [← hv i hi, ← hR i k hi hk, Rat.natCast_mul]
    unfold over
    grind
  rw [sumR_congr e, sumR_mul]
  grind
theorem over_run {n dv dR : Nat} {R v : Nat → Nat} {p : Nat → Rat} {M : Nat → Nat → Rat} (h1 : 0 < dv) (h2 : 0 < dR) (hv : ∀ i, i < n → over (v i) dv = p i) (hR : ∀ i k, i < n → k < n → over (R (i * n + k)) dR = M i k) : ∀ t k, k < n → over (runN n R v t k) (dv * dR ^ t) = runR n M p t k
  | 0, k, hk => by rw [Nat.pow_zero, Nat.mul_one]; exact hv k hk
  | t + 1, k, hk => by
    have := over_step (dv := dv * dR ^ t) (Nat.mul_pos h1 (Nat.pow_pos h2)) h2 (fun i hi => over_run h1 h2 hv hR t i hi) hR hk
    rw [Nat.pow_succ, ← Nat.mul_assoc]
    exact this
/-- all rows, one behind the other -/
def catF (fs : Nat → List Int) : Nat → List Int
  | 0 => []
  | m + 1 => catF fs m ++ fs m
theorem catF_len {fs : Nat → List Int} {n : Nat} : ∀ {m : Nat}, (∀ i, i < m → (fs i).length = 2 * n) → (catF fs m).length = 2 * (m * n)
  | 0, _ => by simp [catF]
  | m + 1, h => by
    rw [catF, List.length_append, catF_len fun i hi => h i (by omega), h m (by omega), Nat.add_mul]
    omega
theorem catF_get {fs : Nat → List Int} {n : Nat} : ∀ {m i j : Nat}, (∀ i, i < m → (fs i).length = 2 * n) → i < m → j < 2 * n → (catF fs m).getD (2 * (i * n) + j) 0 = (fs i).getD j 0
  | 0, _, _, _, h, _ => absurd h (Nat.not_lt_zero _)
  | m + 1, i, j, h, hi, hj => by
    have hl := catF_len (m := m) fun i hi => h i (by omega)
    rw [catF]
    rcases Nat.lt_or_ge i m with h1 | h1
    · have hlt : 2 * (i * n) + j < (catF fs m).length := by
        rw [hl]
        have := Nat.mul_le_mul_right n (show i + 1 ≤ m by omega)
        rw [Nat.add_mul] at this
        omega
      rw [← catF_get (m := m) (fun i hi => h i (by omega)) h1 hj]
      simp only [List.getD_eq_getElem?_getD, List.getElem?_append_left hlt]
    · obtain rfl : i = m := by omega
      simp only [List.getD_eq_getElem?_getD]
      rw [List.getElem?_append_right (by omega), hl, Nat.add_sub_cancel_left]
theorem catF_fq {fs : Nat → List Int} {n m i k : Nat} (h : ∀ i, i < m → (fs i).length = 2 * n) (hi : i < m) (hk : k < n) : fq (catF fs m) (i * n + k) = fq (fs i) k := by
  unfold fq
  have e1 := catF_get (j := 2 * k) h hi (by omega)
  have e2 := catF_get (j := 2 * k + 1) h hi (by omega)
  rw [show 2 * (i * n + k) = 2 * (i * n) + 2 * k by omega, e1]
  rw [show 2 * (i * n) + 2 * k + 1 = 2 * (i * n) + (2 * k + 1) by omega, e2]
theorem split_lt {m n j : Nat} (h : j < m * n) : j / n < m ∧ j % n < n ∧ j = j / n * n + j % n := by
  have hn : 0 < n := Nat.pos_of_ne_zero fun e => by rw [e, Nat.mul_zero] at h; omega
  refine ⟨?_, Nat.mod_lt _ hn, ?_⟩
  · rw [Nat.div_lt_iff_lt_mul hn]; exact h
  · rw [Nat.mul_comm]; exact (Nat.div_add_mod j n).symm
theorem catF_vf {fs : Nat → List Int} {n m : Nat} (h : ∀ i, i < m → (fs i).length = 2 * n) (hv : ∀ i, i < m → AllVF (fs i) n) : AllVF (catF fs m) (m * n) := fun j hj => by
  obtain ⟨h1, h2, h3⟩ := split_lt hj
  have e1 := catF_get (j := 2 * (j % n)) h h1 (by omega)
  have e2 := catF_get (j := 2 * (j % n) + 1) h h1 (by omega)
  have k1 : 2 * j = 2 * (j / n * n) + 2 * (j % n) := by omega
  rw [show 2 * j + 1 = 2 * (j / n * n) + (2 * (j % n) + 1) by omega, k1, e1, e2]
  exact hv _ h1 _ h2
theorem catF_pos {fs : Nat → List Int} {n m : Nat} (h : ∀ i, i < m → (fs i).length = 2 * n) (hv : ∀ i k, i < m → k < n → 0 ≤ (fs i).getD (2 * k) 0) (j : Nat) (hj : j < m * n) : 0 ≤ (catF fs m).getD (2 * j) 0 := by
  obtain ⟨h1, h2, h3⟩ := split_lt hj
  have e1 := catF_get (j := 2 * (j % n)) h h1 (by omega)
  rw [show 2 * j = 2 * (j / n * n) + 2 * (j % n) by omega, e1]
  exact hv _ _ h1 h2
end Go.Proofs.YtionognmgcabbaaGreat.ComM
/- The reference: the rows of a walk over one denominator. -/
namespace Go.Proofs.YtionognmgcabbaaGreat.ComS
open Go.RowKit Go.Proofs.YtionognmgcabbaaGreat Go.Proofs.YtionognmgcabbaaGreat.Base Go.Proofs.YtionognmgcabbaaGreat.Mem Go.Proofs.YtionognmgcabbaaGreat.BigM Go.Proofs.YtionognmgcabbaaGreat.Big Go.Proofs.YtionognmgcabbaaGreat.Blk Go.Proofs.YtionognmgcabbaaGreat.MemF Go.Proofs.YtionognmgcabbaaGreat.ChM Go.Proofs.YtionognmgcabbaaGreat.ComM Go.Proofs.YtionognmgcabbaaGreat.RatM Go.Proofs.YtionognmgcabbaaGreat.WalkM
set_option linter.unusedVariables false
def CatRel (n : Nat) (fs : Nat → List Int) (w : World) (ov iv : Value) (wr : World) : Prop :=
  ∃ i : Nat, iv = .int .i64 (i : Int) ∧ i ≤ n ∧ Hid (OwnF wr w.heap.size ov (i * n) (catF fs i)) ∧ Hid (Below w.heap.size w wr)
theorem CatRel.next {n i : Nat} {fs : Nat → List Int} {w wr w1 : World} {v v' : Value} (hi : i < n) (h : OwnF wr w.heap.size v (i * n) (catF fs i)) (hb : Below w.heap.size w wr) (hown : w1.ownsRow w.heap.size 43 2 v' (i * n + n) (ints (catF fs i) ++ ints (fs i))) (hg : wr.grownBy w1 v.ownBlock) : CatRel n fs w v' (.int .i64 ((i : Int) + 1)) w1 := by
  refine ⟨i + 1, by simp, hi, Lib.hid ?_, Lib.hid (hb.trans (grown_below hg (fun g e => (ownsRow_block h e).choose_spec.2.1) hb.size))⟩
  show w1.ownsRow w.heap.size 43 2 v' ((i + 1) * n) (ints (catF fs (i + 1)))
  rw [Nat.add_mul, Nat.one_mul, catF, show ints (catF fs i ++ fs i) = ints (catF fs i) ++ ints (fs i) by simp [ints]]
  exact hown
theorem news_rd {w : World} {B n b off : Nat} {fs : List Int} (h : RdF w B (some ⟨b, off, none⟩) n fs) (hl : fs.length = 2 * n) : ∀ j u, (ints fs)[j]? = some u → w.cell? ((⟨b, off, none⟩ : Addr).add j) = some u := fun j u hj => by
  have hlt : j < fs.length := by
    have := (List.getElem?_eq_some_iff.1 hj).1
    rwa [ints_len] at this
  obtain ⟨b', off', e, _, hc⟩ := h (by omega)
  injection e with e
  injection e with e1 e2
  subst e1 e2
  have : (⟨b, off, none⟩ : Addr).add j = ⟨b, off + j, none⟩ := by unfold Addr.add; split <;> simp_all
  rw [this, hc j (by omega)]
  have : (ints fs)[j]? = some (.int .i64 (fs.getD j 0)) := by simp [ints, List.getD, hlt]
  rw [this] at hj
  exact hj
theorem ones_ints (fs : List Int) : ∀ u ∈ ints fs, u.oneCell' = true := by
  intro u hu
  obtain ⟨x, _, rfl⟩ := List.mem_map.1 hu
  rfl
set_option maxHeartbeats 2000000 in
set_option maxRecDepth 100000 in
theorem allS_any {A : Option Addr} {c B n b0 : Nat} {L : Nat → Nat} {fs : Nat → List Int} (w : World) (h0 : w.cell? ⟨b0, 0, none⟩ = some (.slice A n c)) (hb0 : b0 < w.heap.size) (hx : RdFF w B A n L fs) (hB : B ≤ w.heap.size) (hL : ∀ i, i < n → L i = n) (hl : ∀ i, i < n → (fs i).length = 2 * L i) (hn : n ≤ 20) (hv : ∀ i, i < n → AllVF (fs i) n) (hp : ∀ i k, i < n → k < n → 0 ≤ (fs i).getD (2 * k) 0) :
    Calls Tryz.prog 96 #[.pointer (some ⟨b0, 0, none⟩)] w (ComRet (n * n) (comN (catF fs n) (n * n)) (comD (catF fs n) (n * n)) w) := by
  have hl' : ∀ i, i < n → (fs i).length = 2 * n := fun i hi => by rw [hl i hi, hL i hi]
  have HX := Lib.hid (hx.more hB)
  have HL := Lib.hid (And.intro hL hl')
  have HV := Lib.hid (catF_vf hl' hv)
  have HP := Lib.hid (catF_pos hl' hp)
  obtain ⟨i2, ki, kz0, kz1, kz2⟩ := info_parts infoFr
  have H0 : Hid (CatRel n fs w (.slice (some ⟨w.heap.size, 0, none⟩) 0 0) (.int .i64 0) (w.alloc (.cells #[] 43))) := Lib.hid ⟨0, rfl, Nat.zero_le _, Lib.hid (by
    rw [Nat.zero_mul]
    exact World.ownsRow_made w #[] 0 (Nat.le_refl _) (Nat.zero_le _) (by simp)), Lib.hid ((Below.refl _ _).alloc (Nat.le_refl _) _)⟩
  clear hx hL hl hl' hv hp
  go_enter Tryz.func96, Tryz.ntmps96
  go_wp2
  go_loopw [4, 5] (fun ov iv wr => CatRel n fs w ov iv wr) (fun _ iv _ => n - (intOf iv).toNat)
  case atStart => exact H0.out
  case round =>
    obtain ⟨i, rfl, hi, HO, HB⟩ := hrel
    clear H0
    have d0 := (HB.out.cell (p := ⟨b0, 0, none⟩) hb0).trans h0
    by_cases hlt : i < n
    · obtain ⟨b, off, A', c', rfl, hbl, g1, hr⟩ := (HX.out.below HB.out (Nat.le_refl _)).at hlt
      have hLi := HL.out.1 i hlt
      rw [hLi] at g1 hr
      obtain ⟨b', off', rfl, _⟩ := hr (by omega)
      have hfl := HL.out.2 i hlt
      have HNW := Lib.hid (And.intro (news_rd hr hfl) hfl)
      have HN := Lib.hid (fun w1 v' hown hg => CatRel.next (w1 := w1) (v' := v') hlt HO.out HB.out hown hg)
      have hii : i * n ≤ 20 * 20 := Nat.mul_le_mul (by omega) hn
      have hs := HB.out.size
      have HOO : Hid (wr.ownsRow w.heap.size 43 2 _ (i * n) (ints (catF fs i))) := HO
      clear hr hfl HB HO hLi
      go_wp2_with (at_builtin; refine wpList_append_own_at _ rfl (.tmp 16) (.tmp 23) 28 rfl w.heap.size 43 i2 (.agg #[.int .i64 0, .int .i64 0]) 2 16 Tryz.underlying28 ki kz0 kz1 kz2 rfl (by decide) _ _ _ rfl HOO.out ⟨b', off', none⟩ n c' (ints (fs i)) rfl (by rw [ints_len, HNW.out.2, Nat.mul_comm]) HNW.out.1 (ones_ints _) ?p3 ?p4 ?p5 ?_)
      try case p3 => first | (simp only [maxLen]; omega) | omega
      try case p4 => omega
      try case p5 => omega
      intro v' w1 hown' hg' _ he
      have HN3 := Lib.hid (HN.out w1 v' hown' hg')
      clear hown' hg' he HN HOO HNW
      go_wp2
      go_roundw
      case rel => exact HN3.out
      case measure => simp [intOf]; omega
    · obtain rfl : i = n := by omega
      obtain ⟨A9, c9, rfl, _⟩ := HO.out.form
      have hii : i * i ≤ 20 * 20 := Nat.mul_le_mul hn hn
      have HC := Lib.hid (comS_any (c := c9) wr HO.out.rd (Nat.le_refl _) HV.out HP.out (by omega))
      have HB2 := HB
      clear HO HB HX
      go_wp2_with fail
      refine HC.out.mono ?_
      rintro e w2 ⟨A3, c3, us, u, rfl, ho, hu, hb2⟩
      obtain ⟨A4, c4, rfl, _⟩ := Dig.form hu
      have HF : Hid (ComRet (i * i) (comN (catF fs i) (i * i)) (comD (catF fs i) (i * i)) w (.returned (.tuple #[.slice A3 (i * i) c3, .slice A4 (bigL (comD (catF fs i) (i * i))).length c4])) w2) := Lib.hid ⟨A3, c3, us, _, rfl, ho.base HB2.out.size, hu, Base.Below.nextA HB2.out hb2⟩
      clear ho hu hb2 HC HB2
      go_wp2
      go_ret2
      exact HF.out
end Go.Proofs.YtionognmgcabbaaGreat.ComS

/- The cycles of a congruence: the law. -/
import Derived.Test.YtpflbcdbmainiaaDrawB
import Derived.Test.YtpflbcdbmainiaaHdMath
namespace Go.Proofs.Ytpflbcdbmainiaa.Cycled
open Go.RowKit Go.Proofs.Ytpflbcdbmainiaa Go.Proofs.Ytpflbcdbmainiaa.Base Go.Proofs.Ytpflbcdbmainiaa.Mem Go.Proofs.Ytpflbcdbmainiaa.Src Go.Proofs.Ytpflbcdbmainiaa.Blk Go.Proofs.Ytpflbcdbmainiaa.Pow Go.Proofs.Ytpflbcdbmainiaa.Cong Go.Proofs.Ytpflbcdbmainiaa.CycM Go.Proofs.Ytpflbcdbmainiaa.Draw
set_option linter.unusedVariables false
theorem cyc_or {T : Nat → Nat} {x : Nat} : ∀ k, (∃ j n, IsCyc T x j n) ∨ ∀ a b, a < b → b < k → iter T x a ≠ iter T x b
  | 0 => .inr fun a b _ h => absurd h (Nat.not_lt_zero b)
  | k + 1 => by
    rcases cyc_or (T := T) (x := x) k with h | h
    · exact .inl h
    · by_cases hj : ∃ j, j < k ∧ iter T x j = iter T x k
      · obtain ⟨j, h1, h2⟩ := hj
        exact .inl ⟨j, k, h1, h2, h⟩
      · refine .inr fun a b hab hb => ?_
        rcases Nat.lt_or_ge b k with h1 | h1
        · exact h a b hab h1
        · obtain rfl : b = k := by omega
          exact fun e => hj ⟨a, hab, e⟩
theorem cyc_ex {T : Nat → Nat} {M x : Nat} (hT : ∀ s, s < M → T s < M) (hx : x < M) : ∃ j n, IsCyc T x j n := by
  rcases cyc_or (T := T) (x := x) (M + 1) with h | h
  · exact h
  · have := pigeon M (M + 1) (iter T x) (fun i _ => iter_lt hT hx i) h
    omega
theorem fullB_iff {m f a : Nat} (hm : 2 ≤ m) (hm2 : m ≤ 100000) (hf : f < m) (ha : a < m) : fullB m f a = true ↔ Hd.Full m f a := by
  have hB : congB m f a = true := by
    rw [congB, inR_yes (by omega), inR_yes (by omega), inR_yes (by omega)]; rfl
  obtain ⟨j, n, hc⟩ := cyc_ex (T := stepN m f a) (M := m) (x := 0) (fun s _ => stepN_lt (by omega) s) (by omega)
  rw [fullB_eq hB (j := j) (n := n) (by simpa using hc)]
  have hlt := hc.1
  rw [beq_iff_eq]
  constructor
  · intro h
    exact Hd.full_of hm hc (by omega)
  · intro h
    have := Hd.full_to hm hc h
    omega
theorem tmod_one {f p : Nat} (hp : 2 ≤ p) : ((f : Int) - 1).tmod (p : Int) = 0 ↔ f % p = 1 := by
  rcases Nat.eq_zero_or_pos f with h | h
  · subst h
    have e : ((0 : Nat) : Int) - 1 = -1 := rfl
    rw [e, Int.neg_tmod, Int.tmod_eq_emod_of_nonneg (by decide), Int.emod_eq_of_lt (by decide) (by omega)]
    simp
  · rw [Int.tmod_eq_emod_of_nonneg (by omega), show (f : Int) - 1 = ((f - 1 : Nat) : Int) by omega, ← Int.natCast_emod]
    have h1 := Nat.mod_lt (f - 1) (show p > 0 by omega)
    obtain ⟨q, hq⟩ : ∃ q, f - 1 = p * q + (f - 1) % p := ⟨(f - 1) / p, by rw [Nat.mul_comm]; exact (Nat.div_add_mod' (f - 1) p).symm⟩
    constructor
    · intro h2
      have h3 : (f - 1) % p = 0 := by exact_mod_cast h2
      rw [h3] at hq
      rw [show f = 1 + p * q by omega, Nat.add_mul_mod_self_left, Nat.mod_eq_of_lt (by omega)]
    · intro h2
      have h3 : f = ((f - 1) % p + 1) + p * q := by omega
      rw [h3, Nat.add_mul_mod_self_left] at h2
      by_cases h4 : (f - 1) % p + 1 = p
      · rw [h4, Nat.mod_self] at h2; cases h2
      · rw [Nat.mod_eq_of_lt (by omega)] at h2
        have : (f - 1) % p = 0 := by omega
        exact_mod_cast this
theorem bothB_yes {m f a x : Nat} (hm : 2 ≤ m) (hm2 : m ≤ 100000) (hf : f < m) (ha : a < m) (hx : x < m) : bothB m f a x = true := by
  rw [bothB, congB, inR_yes (by omega), inR_yes (by omega), inR_yes (by omega), inR_yes (by omega)]; rfl
set_option maxHeartbeats 400000 in
theorem nextState_yes (m f a x : Nat) {y : Nat} (w : World) (hm : 2 ≤ m) (hm2 : m ≤ 100000) (hf : f < m) (ha : a < m) (hx : x < m) (hy : stepN m f a x = y) :
    Calls Try.prog 18 #[.agg #[.int .i64 ((m : Nat) : Int), .int .i64 ((f : Nat) : Int), .int .i64 ((a : Nat) : Int)], .int .i64 (x : Int)] w fun e w' => e = .returned (.tuple #[.int .i64 (y : Int), .bool true]) ∧ Below w.heap.size w w' := by
  have hB := Lib.hid (bothB_yes hm hm2 hf ha hx)
  have HS : Hid (∀ (b : Nat) (w : World), w.cell? ⟨b, 0, none⟩ = some (.int .i64 m) → w.cell? ⟨b, 1, none⟩ = some (.int .i64 f) → w.cell? ⟨b, 2, none⟩ = some (.int .i64 a) → Calls Try.prog 72 #[.pointer (some ⟨b, 0, none⟩), .int .i64 x] w fun e w' => e = .returned (.int .i64 (y : Int)) ∧ ∃ n, w' = w.drewN n) :=
    Lib.hid fun b w h0 h1 h2 => hy ▸ l03Step_any b 0 m f a x w h0 h1 h2 hm hm2 hf ha hx
  clear hy
  go_enter Try.func18, Try.ntmps18
  go_wp2_with (first | (go_at_call 69; refine (l03Both_any _ 0 (m : Int) f a x _ (by simp) (by simp) (by simp)).mono ?_; rintro e w1 ⟨rfl, k, rfl⟩; rw [hB.out]) | (go_at_call 72; refine (HS.out _ _ (by simp) (by simp) (by simp)).mono ?_; rintro e w2 ⟨rfl, k2, rfl⟩))
  go_ret2
  exact ⟨rfl, below_drewN ((Below.refl _ _).alloc (Nat.le_refl _) _) _⟩
set_option maxHeartbeats 400000 in
theorem jumpState_yes (m f a x n : Nat) {y : Nat} (w : World) (hm : 2 ≤ m) (hm2 : m ≤ 100000) (hf : f < m) (ha : a < m) (hx : x < m) (hn : n ≤ 1000000000000000000) (hy : iter (stepN m f a) x n = y) :
    Calls Try.prog 17 #[.agg #[.int .i64 ((m : Nat) : Int), .int .i64 ((f : Nat) : Int), .int .i64 ((a : Nat) : Int)], .int .i64 (x : Int), .int .i64 (n : Int)] w fun e w' => e = .returned (.tuple #[.int .i64 (y : Int), .bool true]) ∧ Below w.heap.size w w' := by
  have hB := Lib.hid (bothB_yes hm hm2 hf ha hx)
  have hN := Lib.hid (inR_yes (n := (n : Int)) (lo := 0) (hi := 1000000000000000000) (by omega))
  obtain ⟨W1, hW1⟩ : ∃ W1, W1 = w.alloc (.cells #[.int .i64 ((m : Nat) : Int), .int .i64 ((f : Nat) : Int), .int .i64 ((a : Nat) : Int)] 25) := ⟨_, rfl⟩
  have B1 : Below w.heap.size w W1 := by rw [hW1]; exact (Below.refl _ _).alloc (Nat.le_refl _) _
  have K1 : Blk W1 w.heap.size 25 #[.int .i64 ((m : Nat) : Int), .int .i64 ((f : Nat) : Int), .int .i64 ((a : Nat) : Int)] := by rw [hW1]; exact Blk.new _ _ _
  have hp := powOf (f := f) (a := a) hm n
  have hy2 : stepN m (powF m f a n) (powA m f a n) x = y := by rw [hp.2.2 x hx]; exact hy
  have HL := Lib.hid (l03Both_any w.heap.size 0 (m : Int) f a x W1 (K1.at 0 rfl) (K1.at 1 rfl) (K1.at 2 rfl))
  rw [hB.out] at HL
  have HP := Lib.hid (fun k => l03Power_any w.heap.size 0 m f a n (W1.drewN k) (K1.at 0 rfl) (K1.at 1 rfl) (K1.at 2 rfl) K1.lt hm hm2 hf ha hn)
  have HS : Hid (∀ (b : Nat) (w : World), w.cell? ⟨b, 0, none⟩ = some (.int .i64 m) → w.cell? ⟨b, 1, none⟩ = some (.int .i64 (powF m f a n : Nat)) → w.cell? ⟨b, 2, none⟩ = some (.int .i64 (powA m f a n : Nat)) → Calls Try.prog 72 #[.pointer (some ⟨b, 0, none⟩), .int .i64 x] w fun e w' => e = .returned (.int .i64 (y : Int)) ∧ ∃ n, w' = w.drewN n) :=
    Lib.hid fun b w h0 h1 h2 => hy2 ▸ l03Step_any b 0 m _ _ x w h0 h1 h2 hm hm2 hp.1 hp.2.1 hx
  unfold PowRet at HP
  have HW := Lib.hid hW1
  have HB1 := Lib.hid B1
  clear hp hy hy2 hW1 B1 K1
  generalize powF m f a n = F at *
  generalize powA m f a n = A at *
  go_enter Try.func17, Try.ntmps17
  go_wp2_with fail
  rw [← HW.out]
  refine HL.out.mono ?_
  rintro e w1 ⟨rfl, k1, rfl⟩
  go_wp2_with fail
  refine (l00In_any _ _ _ _).mono ?_
  rintro e w' ⟨rfl, rfl⟩
  rw [hN.out]
  go_wp2_with fail
  refine (HP.out _).mono ?_
  rintro e w2 ⟨rfl, hb2⟩
  have HB2 := Lib.hid (((below_drewN HB1.out k1).trans (hb2.mono HB1.out.size)).alloc (Nat.le_trans HB1.out.size hb2.size) (.cells #[.int .i64 ((m : Nat) : Int), .int .i64 ((F : Nat) : Int), .int .i64 ((A : Nat) : Int)] 25))
  clear hb2
  go_wp2_with fail
  refine (HS.out _ _ (by simp) (by simp) (by simp)).mono ?_
  rintro e w3 ⟨rfl, k3, rfl⟩
  go_wp2
  go_ret2
  exact ⟨rfl, below_drewN HB2.out _⟩
def longB (n n' : Nat) : Bool := decide ((n : Int) > 1048576) || decide ((n' : Int) > 1048576)
theorem b10Long_any (A A' : Option Addr) (n c n' c' : Nat) (w : World) :
    Calls Try.prog 14 #[.slice A n c, .slice A' n' c'] w fun e w' => e = .returned (.bool (longB n n')) ∧ w = w' := by
  by_cases h1 : (n : Int) > 1048576
  · go_enter Try.func14, Try.ntmps14
    go_wp2
    go_ret
    exact ⟨ret_bool (by simp only [longB, decide_eq_true h1, Bool.true_or]), rfl⟩
  · go_enter Try.func14, Try.ntmps14
    go_wp2
    go_ret
    exact ⟨ret_bool (by rw [longB, decide_eq_false (show ¬ (n : Int) > 1048576 by omega), Bool.false_or]), rfl⟩
/-- the search's relation -/
def SRel (m f a : Nat) (fv mv pv : Value) : Prop := ∃ (p mc : Nat) (full : Bool), fv = .bool full ∧ mv = .int .i64 (mc : Int) ∧ pv = .int .i64 (p : Int) ∧ 2 ≤ p ∧ p ≤ m + 1 ∧ Hd.Sieve m f a p mc full
def DRel (m p mc : Nat) (mv : Value) : Prop := ∃ mc' : Nat, mc' ≤ mc ∧ mv = .int .i64 (mc' : Int) ∧ Hid (Hd.Div m p mc')
theorem SRel.mk {m f a p mc : Nat} {full : Bool} (hp : 2 ≤ p) (hm : p ≤ m) (h : Hd.Sieve m f a (p + 1) mc full) : SRel m f a (.bool full) (.int .i64 (mc : Int)) (.int .i64 ((p : Int) + 1)) :=
  ⟨p + 1, mc, full, rfl, rfl, by simp, by omega, by omega, h⟩
theorem DRel.less {K mc' : Nat} {v : Int} (hv : v = (K : Int)) (h : K < mc') : (intOf (.int .i64 v)).toNat < (intOf (.int .i64 (mc' : Int))).toNat := by
  subst hv; simp only [intOf]; omega
theorem DRel.mk {m p mc mc' : Nat} (h : mc' ≤ mc) (h2 : Hid (Hd.Div m p mc')) {v : Int} (hv : v = (mc' : Int)) : DRel m p mc (.int .i64 v) := ⟨mc', h, by rw [hv], h2⟩
set_option maxHeartbeats 4000000 in
set_option maxRecDepth 100000 in
theorem fnCycled_any (A A' : Option Addr) (c c' B : Nat) (zs zs' : List Int) (w : World) (hx : RdB w B A zs) (hB : B ≤ w.heap.size) (hl : zs.length ≤ 9223372036854775807) (hz : ∀ z ∈ zs, 0 ≤ z ∧ z ≤ 255) :
    Calls Try.prog 3 #[.slice A zs.length c, .slice A' zs'.length c'] w fun e w' => e = .returned (.bool true) ∧ Below w.heap.size w w' := by
  have HL := Lib.hid (fun w => b10Long_any A A' zs.length c zs'.length c' w)
  have HC := Lib.hid (b10Cong_any A c B zs w hx hB hl hz)
  clear hx hz
  cases hlong : longB zs.length zs'.length with
  | true =>
    rw [hlong] at HL
    clear hlong
    go_enter Try.func3, Try.ntmps3
    go_wp2_with fail
    refine (HL.out _).mono ?_
    rintro e w' ⟨rfl, rfl⟩
    go_wp2
    go_ret
    exact ⟨rfl, Below.refl _ _⟩
  | false =>
    rw [hlong] at HL
    clear hlong
    go_enter Try.func3, Try.ntmps3
    go_wp2_with fail
    refine (HL.out _).mono ?_
    rintro e w' ⟨rfl, rfl⟩
    go_wp2_with fail
    refine HC.out.mono ?_
    rintro e w1 ⟨m, f, a, x, hm, hm5, hf, ha, hx, rfl, hb1⟩
    obtain ⟨j, n, hcyc⟩ := cyc_ex (T := stepN m f a) (M := m) (x := x) (fun s _ => stepN_lt (by omega) s) hx
    have hle := hcyc.le (M := m) (fun s _ => stepN_lt (by omega) s) hx
    have hbB := bothB_yes hm (by omega) hf ha hx
    have HSC := Lib.hid (fun w => implStateCycle_any (m : Int) f a x w)
    rw [hbB, preB_eq hbB (j := j) (n := n) (by simpa using hcyc), perB_eq hbB (j := j) (n := n) (by simpa using hcyc)] at HSC
    have HJ := Lib.hid (fun i w (hi : i ≤ 100000) => jumpState_yes m f a x i (y := iter (stepN m f a) x i) w hm (by omega) hf ha hx (by omega) rfl)
    have HN := Lib.hid (fun i w => nextState_yes m f a (iter (stepN m f a) x i) (y := iter (stepN m f a) x (i + 1)) w hm (by omega) hf ha (iter_lt (fun s _ => stepN_lt (by omega) s) hx i) rfl)
    have HF := Lib.hid (fun w => implIsFull_any (m : Int) f a w)
    have hfull := Lib.hid (fullB_iff hm (by omega) hf ha)
    obtain ⟨hjn, hback, hdist⟩ := hcyc
    obtain ⟨per, rfl⟩ : ∃ per, n = j + per := ⟨n - j, by omega⟩
    rw [show ((j + per : Nat) : Int) - (j : Int) = (per : Int) by omega] at HSC
    have hper : 1 ≤ per := by omega
    have HD := Lib.hid hdist
    have HBk := Lib.hid hback
    clear hdist hback hbB
    generalize iter (stepN m f a) x = y at *
    generalize fullB (m : Int) f a = full0 at *
    obtain ⟨W1, hW1⟩ : ∃ W1, W1 = w1.alloc (.cells #[.int .i64 ((m : Nat) : Int), .int .i64 ((f : Nat) : Int), .int .i64 ((a : Nat) : Int)] 25) := ⟨_, rfl⟩
    have K1 : Blk W1 w1.heap.size 25 #[.int .i64 ((m : Nat) : Int), .int .i64 ((f : Nat) : Int), .int .i64 ((a : Nat) : Int)] := by rw [hW1]; exact Blk.new _ _ _
    have B1 : Below w.heap.size w W1 := by rw [hW1]; exact hb1.alloc hb1.size _
    have HW1 := Lib.hid hW1
    have c0 := K1.at 0 (v := .int .i64 (m : Int)) rfl
    have c1 := K1.at 1 (v := .int .i64 (f : Int)) rfl
    have c2 := K1.at 2 (v := .int .i64 (a : Int)) rfl
    have KK1 := Lib.hid K1
    have BB1 := Lib.hid B1
    clear hW1 K1 B1 hb1
    go_wp2_with fail
    rw [← HW1.out]
    refine (HSC.out _).mono ?_
    rintro e w2 ⟨rfl, hb2⟩
    have k2 := KK1.out.belowS hb2
    have b2 := Lib.hid (BB1.out.trans (hb2.mono BB1.out.size))
    have HJ1 := Lib.hid (fun w => HJ.out j w (by omega))
    have HJ2 := Lib.hid (fun w => HJ.out (j + per) w (by omega))
    rw [show ((j + per : Nat) : Int) = (j : Int) + (per : Int) by simp, ← HBk.out] at HJ2
    clear c0 c1 c2 hb2
    have c0 := k2.at 0 (v := .int .i64 (m : Int)) rfl
    have c1 := k2.at 1 (v := .int .i64 (f : Int)) rfl
    have c2 := k2.at 2 (v := .int .i64 (a : Int)) rfl
    have K2 := Lib.hid k2
    clear k2
    go_wp2_with fail
    refine (HJ1.out _).mono ?_
    rintro e w3 ⟨rfl, hb3⟩
    have k3 := K2.out.belowS hb3
    have b3 := Lib.hid (b2.out.trans (hb3.mono b2.out.size))
    clear c0 c1 c2 hb3
    have c0 := k3.at 0 (v := .int .i64 (m : Int)) rfl
    have c1 := k3.at 1 (v := .int .i64 (f : Int)) rfl
    have c2 := k3.at 2 (v := .int .i64 (a : Int)) rfl
    have K3 := Lib.hid k3
    clear k3
    go_wp2_with fail
    refine (HJ2.out _).mono ?_
    rintro e w4 ⟨rfl, hb4⟩
    have k4 := K3.out.belowS hb4
    have b4 := Lib.hid (b3.out.trans (hb4.mono b3.out.size))
    clear c0 c1 c2 hb4
    have K4 := Lib.hid k4
    clear k4
    go_wp2
    go_loopw [14, 15] (fun nv iv wr => ∃ q : Nat, q + 1 ≤ per ∧ nv = .int .i64 (y (j + q) : Nat) ∧ iv = .int .i64 ((q : Int) + 1) ∧ Hid (Blk wr w1.heap.size 25 #[.int .i64 ((m : Nat) : Int), .int .i64 ((f : Nat) : Int), .int .i64 ((a : Nat) : Int)]) ∧ Hid (Below w.heap.size w wr)) (fun _ iv _ => per + 1 - (intOf iv).toNat)
    case atStart => exact ⟨0, hper, rfl, rfl, K4, b4⟩
    case round =>
      obtain ⟨q, hq, rfl, rfl, KQ, BQ⟩ := hrel
      have c0 := KQ.out.at 0 (v := .int .i64 (m : Int)) rfl
      have c1 := KQ.out.at 1 (v := .int .i64 (f : Int)) rfl
      have c2 := KQ.out.at 2 (v := .int .i64 (a : Int)) rfl
      by_cases hqp : q + 1 < per
      · have hlt : (q : Int) + 1 < (per : Int) := by omega
        have hd : (((y (j + q + 1) : Nat) : Int) == ((y j : Nat) : Int)) = false := by
          have := HD.out j (j + q + 1) (by omega) (by omega)
          simp; omega
        have HNq := Lib.hid (fun w => HN.out (j + q) w)
        generalize hy1 : y (j + q + 1) = y1 at *
        have HY1 := Lib.hid hy1
        clear hy1
        go_wp2_with fail
        refine (HNq.out _).mono ?_
        rintro e w5 ⟨rfl, hb5⟩
        have k5 := KQ.out.belowS hb5
        have b5 := Lib.hid (BQ.out.trans (hb5.mono BQ.out.size))
        have K5 := Lib.hid k5
        clear c0 c1 c2 hb5 k5
        go_wp2
        go_roundw
        case rel => exact ⟨q + 1, by omega, by rw [← HY1.out]; rfl, by simp, K5, b5⟩
        case measure => simp [intOf]; omega
      · obtain rfl : per = q + 1 := by omega
        by_cases hj0 : j = 0
        · subst hj0
          go_wp2
          clear HJ1 HJ2 HJ HN HSC K2 b2 K3 b3 K4 b4
          go_loop [20, 21, 22] (fun fv mv pv => SRel m f a fv mv pv) (fun _ _ pv => m + 2 - (intOf pv).toNat)
          case atStart => exact ⟨2, m, true, rfl, rfl, rfl, Nat.le_refl _, by omega, Hd.Sieve.start (by omega)⟩
          case round =>
            obtain ⟨p, mc, full, rfl, rfl, rfl, hp2, hpm, hS⟩ := hrel
            have hmc := hS.pos
            have hmcm := Nat.le_of_dvd (by omega) hS.dvd
            have HS := Lib.hid hS
            clear hS
            have hp0 : ((p : Int) == 0) = false := by simp; omega
            by_cases hpc : p ≤ mc
            · by_cases hr : mc % p = 0
              · have hr' : (mc : Int) % (p : Int) = 0 := by exact_mod_cast hr
                have hPd := Nat.dvd_of_mod_eq_zero hr
                have HP := Lib.hid (HS.out.prime hPd hp2)
                have HPd := Lib.hid hPd
                clear hPd
                go_wp2
                clear hr hr'
                go_loop [21] (fun mv => DRel m p mc mv) (fun mv => (intOf mv).toNat)
                case atStart => exact ⟨mc, Nat.le_refl _, rfl, Lib.hid HS.out.div⟩
                case round =>
                  obtain ⟨mc', hle', rfl, hD⟩ := hrel
                  have hpos := hD.out.pos
                  by_cases hr : mc' % p = 0
                  · have hr' : (mc' : Int) % (p : Int) = 0 := by exact_mod_cast hr
                    have hDn := Lib.hid (hD.out.next HP.out (Nat.dvd_of_mod_eq_zero hr))
                    have hlt : mc' / p < mc' := Nat.div_lt_self hpos hp2
                    obtain ⟨K, hK⟩ : ∃ K, mc' / p = K := ⟨_, rfl⟩
                    rw [hK] at hDn hlt
                    have hwr : wrap64 ((mc' : Int) / (p : Int)) = (K : Int) := by
                      rw [← Int.natCast_ediv, hK]; simp only [wrap64]; omega
                    clear hr
                    go_wp2
                    go_round
                    case rel => exact DRel.mk (Nat.le_trans (Nat.le_of_lt hlt) hle') hDn hwr
                    case measure => exact DRel.less hwr hlt
                  · have hr' : ¬ (mc' : Int) % (p : Int) = 0 := by intro h; exact hr (by exact_mod_cast h)
                    have hnd : ¬ p ∣ mc' := fun h => hr (Nat.mod_eq_zero_of_dvd h)
                    have HN2 := Lib.hid (fun full' hf' => HS.out.next (full' := full') HPd.out hp2 hD.out hnd hf')
                    have ht := Lib.hid (tmod_one (f := f) hp2)
                    clear hr hnd
                    have hae : (a : Int) % (p : Int) = ((a % p : Nat) : Int) := by simp
                    have hdv : p ∣ a ↔ a % p = 0 := Nat.dvd_iff_mod_eq_zero
                    cases full with
                    | false =>
                      go_wp2
                      go_round
                      case rel => first | exact SRel.mk hp2 (by omega) (HN2.out false (by simp)) | exact ⟨_, _, _, SRel.mk hp2 (by omega) (HN2.out false (by simp)), rfl, rfl, rfl⟩
                      case measure => simp [intOf]; omega
                    | true =>
                      by_cases ha0 : a % p = 0
                      · have ha' : ((a : Int) % (p : Int) == 0) = true := by rw [hae, ha0]; rfl
                        have ha2 : ((a : Int) % (p : Int) != 0) = false := by rw [bne, ha']; rfl
                        have hda := hdv.2 ha0
                        have HH := Lib.hid (HN2.out false (by simp [hda]))
                        clear hae hdv hda ha0
                        go_wp2
                        go_round
                        case rel => first | exact SRel.mk hp2 (by omega) (HH.out) | exact ⟨_, _, _, SRel.mk hp2 (by omega) (HH.out), rfl, rfl, rfl⟩
                        case measure => simp [intOf]; omega
                      · have ha' : ((a : Int) % (p : Int) == 0) = false := by rw [hae]; simp; omega
                        have ha2 : ((a : Int) % (p : Int) != 0) = true := by rw [bne, ha']; rfl
                        have hda : ¬ p ∣ a := fun h => ha0 (hdv.1 h)
                        by_cases hf1 : ((f : Int) - 1).tmod (p : Int) = 0
                        · have HH := Lib.hid (HN2.out true (by simp [hda, ht.out.1 hf1]))
                          have hf1b : (((f : Int) - 1).tmod (p : Int) == 0) = true := by rw [hf1]; rfl
                          clear hf1
                          clear hae hdv hda ha0
                          go_wp2
                          go_round
                          case rel => first | exact SRel.mk hp2 (by omega) (HH.out) | exact ⟨_, _, _, SRel.mk hp2 (by omega) (HH.out), rfl, rfl, rfl⟩
                          case measure => simp [intOf]; omega
                        · have HH := Lib.hid (HN2.out false (by simp only [Bool.false_eq_true, false_iff]; exact fun h => hf1 (ht.out.2 h.2.2)))
                          have hf1b : (((f : Int) - 1).tmod (p : Int) == 0) = false := by simpa using hf1
                          clear hf1
                          clear hae hdv hda ha0
                          go_wp2
                          go_round
                          case rel => first | exact SRel.mk hp2 (by omega) (HH.out) | exact ⟨_, _, _, SRel.mk hp2 (by omega) (HH.out), rfl, rfl, rfl⟩
                          case measure => simp [intOf]; omega
              · have hr' : ¬ (mc : Int) % (p : Int) = 0 := by intro h; exact hr (by exact_mod_cast h)
                have HN2 := Lib.hid (HS.out.skip (fun h => hr (Nat.mod_eq_zero_of_dvd h)))
                clear hr
                go_wp2
                go_round
                case rel => exact SRel.mk hp2 (by omega) HN2.out
                case measure => simp [intOf]; omega
            · have hdone := Lib.hid (HS.out.done (by omega))
              have ht4 := Lib.hid (tmod_one (f := f) (p := 4) (by decide))
              have h4e : (m : Int) % 4 = ((m % 4 : Nat) : Int) := by simp
              have h4d : 4 ∣ m ↔ m % 4 = 0 := Nat.dvd_iff_mod_eq_zero
              cases full with
              | false =>
                have hf0 : full0 = false := by
                  cases full0 with
                  | false => rfl
                  | true => exact absurd (hdone.out.2 (hfull.out.1 rfl).1) (by decide)
                subst hf0
                clear h4e h4d
                go_wp2_with fail
                refine (HF.out _).mono ?_
                rintro e w9 ⟨rfl, hb9⟩
                go_wp2
                go_ret
                exact ⟨rfl, BQ.out.trans (hb9.mono BQ.out.size)⟩
              | true =>
                by_cases h4 : m % 4 = 0
                · have h4' : ((m : Int) % 4 == 0) = true := by rw [h4e, h4]; rfl
                  have h42 : ((m : Int) % 4 != 0) = false := by rw [bne, h4']; rfl
                  by_cases hf1 : ((f : Int) - 1).tmod 4 = 0
                  · have hf0 : full0 = true := hfull.out.2 ⟨hdone.out.1 rfl, fun _ => ht4.out.1 hf1⟩
                    subst hf0
                    have hf1b : (((f : Int) - 1).tmod 4 == 0) = true := by rw [hf1]; rfl
                    clear hf1
                    clear h4e h4d h4
                    go_wp2_with fail
                    refine (HF.out _).mono ?_
                    rintro e w9 ⟨rfl, hb9⟩
                    go_wp2
                    go_ret
                    exact ⟨rfl, BQ.out.trans (hb9.mono BQ.out.size)⟩
                  · have hf0 : full0 = false := by
                      cases full0 with
                      | false => rfl
                      | true => exact absurd (ht4.out.2 ((hfull.out.1 rfl).2 (h4d.2 h4))) hf1
                    subst hf0
                    have hf1b : (((f : Int) - 1).tmod 4 == 0) = false := by simpa using hf1
                    clear hf1
                    clear h4e h4d h4
                    go_wp2_with fail
                    refine (HF.out _).mono ?_
                    rintro e w9 ⟨rfl, hb9⟩
                    go_wp2
                    go_ret
                    exact ⟨rfl, BQ.out.trans (hb9.mono BQ.out.size)⟩
                · have h4' : ((m : Int) % 4 == 0) = false := by rw [h4e]; simp; omega
                  have h42 : ((m : Int) % 4 != 0) = true := by rw [bne, h4']; rfl
                  have hf0 : full0 = true := hfull.out.2 ⟨hdone.out.1 rfl, fun h => absurd (h4d.1 h) h4⟩
                  subst hf0
                  clear h4e h4d h4
                  go_wp2_with fail
                  refine (HF.out _).mono ?_
                  rintro e w9 ⟨rfl, hb9⟩
                  go_wp2
                  go_ret
                  exact ⟨rfl, BQ.out.trans (hb9.mono BQ.out.size)⟩
        · have hj0' : (j : Int) > 0 := by omega
          have HJ3 := Lib.hid (fun w => HJ.out (j - 1) w (by omega))
          have HJ4 := Lib.hid (fun w => HJ.out (j - 1 + (q + 1)) w (by omega))
          rw [show ((j - 1 : Nat) : Int) = (j : Int) - 1 by omega] at HJ3
          rw [show ((j - 1 + (q + 1) : Nat) : Int) = (j : Int) - 1 + ((q : Int) + 1) by omega] at HJ4
          have hd : (((y (j - 1) : Nat) : Int) == ((y (j - 1 + (q + 1)) : Nat) : Int)) = false := by
            have := HD.out (j - 1) (j - 1 + (q + 1)) (by omega) (by omega)
            simp; omega
          generalize y (j - 1) = y3 at *
          generalize y (j - 1 + (q + 1)) = y4 at *
          go_wp2_with fail
          refine (HJ3.out _).mono ?_
          rintro e w5 ⟨rfl, hb5⟩
          have k5 := KQ.out.belowS hb5
          have b5 := Lib.hid (BQ.out.trans (hb5.mono BQ.out.size))
          clear c0 c1 c2 hb5
          have c0 := k5.at 0 (v := .int .i64 (m : Int)) rfl
          have c1 := k5.at 1 (v := .int .i64 (f : Int)) rfl
          have c2 := k5.at 2 (v := .int .i64 (a : Int)) rfl
          have K5 := Lib.hid k5
          clear k5
          go_wp2_with fail
          refine (HJ4.out _).mono ?_
          rintro e w6 ⟨rfl, hb6⟩
          have k6 := K5.out.belowS hb6
          have BQ := Lib.hid (b5.out.trans (hb6.mono b5.out.size))
          clear c0 c1 c2 hb6
          have c0 := k6.at 0 (v := .int .i64 (m : Int)) rfl
          have c1 := k6.at 1 (v := .int .i64 (f : Int)) rfl
          have c2 := k6.at 2 (v := .int .i64 (a : Int)) rfl
          clear k6 HJ3 HJ4 K5 b5
          go_wp2
          clear HJ1 HJ2 HJ HN HSC K2 b2 K3 b3 K4 b4
          go_loop [20, 21, 22] (fun fv mv pv => SRel m f a fv mv pv) (fun _ _ pv => m + 2 - (intOf pv).toNat)
          case atStart => exact ⟨2, m, true, rfl, rfl, rfl, Nat.le_refl _, by omega, Hd.Sieve.start (by omega)⟩
          case round =>
            obtain ⟨p, mc, full, rfl, rfl, rfl, hp2, hpm, hS⟩ := hrel
            have hmc := hS.pos
            have hmcm := Nat.le_of_dvd (by omega) hS.dvd
            have HS := Lib.hid hS
            clear hS
            have hp0 : ((p : Int) == 0) = false := by simp; omega
            by_cases hpc : p ≤ mc
            · by_cases hr : mc % p = 0
              · have hr' : (mc : Int) % (p : Int) = 0 := by exact_mod_cast hr
                have hPd := Nat.dvd_of_mod_eq_zero hr
                have HP := Lib.hid (HS.out.prime hPd hp2)
                have HPd := Lib.hid hPd
                clear hPd
                go_wp2
                clear hr hr'
                go_loop [21] (fun mv => DRel m p mc mv) (fun mv => (intOf mv).toNat)
                case atStart => exact ⟨mc, Nat.le_refl _, rfl, Lib.hid HS.out.div⟩
                case round =>
                  obtain ⟨mc', hle', rfl, hD⟩ := hrel
                  have hpos := hD.out.pos
                  by_cases hr : mc' % p = 0
                  · have hr' : (mc' : Int) % (p : Int) = 0 := by exact_mod_cast hr
                    have hDn := Lib.hid (hD.out.next HP.out (Nat.dvd_of_mod_eq_zero hr))
                    have hlt : mc' / p < mc' := Nat.div_lt_self hpos hp2
                    obtain ⟨K, hK⟩ : ∃ K, mc' / p = K := ⟨_, rfl⟩
                    rw [hK] at hDn hlt
                    have hwr : wrap64 ((mc' : Int) / (p : Int)) = (K : Int) := by
                      rw [← Int.natCast_ediv, hK]; simp only [wrap64]; omega
                    clear hr
                    go_wp2
                    go_round
                    case rel => exact DRel.mk (Nat.le_trans (Nat.le_of_lt hlt) hle') hDn hwr
                    case measure => exact DRel.less hwr hlt
                  · have hr' : ¬ (mc' : Int) % (p : Int) = 0 := by intro h; exact hr (by exact_mod_cast h)
                    have hnd : ¬ p ∣ mc' := fun h => hr (Nat.mod_eq_zero_of_dvd h)
                    have HN2 := Lib.hid (fun full' hf' => HS.out.next (full' := full') HPd.out hp2 hD.out hnd hf')
                    have ht := Lib.hid (tmod_one (f := f) hp2)
                    clear hr hnd
                    have hae : (a : Int) % (p : Int) = ((a % p : Nat) : Int) := by simp
                    have hdv : p ∣ a ↔ a % p = 0 := Nat.dvd_iff_mod_eq_zero
                    cases full with
                    | false =>
                      go_wp2
                      go_round
                      case rel => first | exact SRel.mk hp2 (by omega) (HN2.out false (by simp)) | exact ⟨_, _, _, SRel.mk hp2 (by omega) (HN2.out false (by simp)), rfl, rfl, rfl⟩
                      case measure => simp [intOf]; omega
                    | true =>
                      by_cases ha0 : a % p = 0
                      · have ha' : ((a : Int) % (p : Int) == 0) = true := by rw [hae, ha0]; rfl
                        have ha2 : ((a : Int) % (p : Int) != 0) = false := by rw [bne, ha']; rfl
                        have hda := hdv.2 ha0
                        have HH := Lib.hid (HN2.out false (by simp [hda]))
                        clear hae hdv hda ha0
                        go_wp2
                        go_round
                        case rel => first | exact SRel.mk hp2 (by omega) (HH.out) | exact ⟨_, _, _, SRel.mk hp2 (by omega) (HH.out), rfl, rfl, rfl⟩
                        case measure => simp [intOf]; omega
                      · have ha' : ((a : Int) % (p : Int) == 0) = false := by rw [hae]; simp; omega
                        have ha2 : ((a : Int) % (p : Int) != 0) = true := by rw [bne, ha']; rfl
                        have hda : ¬ p ∣ a := fun h => ha0 (hdv.1 h)
                        by_cases hf1 : ((f : Int) - 1).tmod (p : Int) = 0
                        · have HH := Lib.hid (HN2.out true (by simp [hda, ht.out.1 hf1]))
                          have hf1b : (((f : Int) - 1).tmod (p : Int) == 0) = true := by rw [hf1]; rfl
                          clear hf1
                          clear hae hdv hda ha0
                          go_wp2
                          go_round
                          case rel => first | exact SRel.mk hp2 (by omega) (HH.out) | exact ⟨_, _, _, SRel.mk hp2 (by omega) (HH.out), rfl, rfl, rfl⟩
                          case measure => simp [intOf]; omega
                        · have HH := Lib.hid (HN2.out false (by simp only [Bool.false_eq_true, false_iff]; exact fun h => hf1 (ht.out.2 h.2.2)))
                          have hf1b : (((f : Int) - 1).tmod (p : Int) == 0) = false := by simpa using hf1
                          clear hf1
                          clear hae hdv hda ha0
                          go_wp2
                          go_round
                          case rel => first | exact SRel.mk hp2 (by omega) (HH.out) | exact ⟨_, _, _, SRel.mk hp2 (by omega) (HH.out), rfl, rfl, rfl⟩
                          case measure => simp [intOf]; omega
              · have hr' : ¬ (mc : Int) % (p : Int) = 0 := by intro h; exact hr (by exact_mod_cast h)
                have HN2 := Lib.hid (HS.out.skip (fun h => hr (Nat.mod_eq_zero_of_dvd h)))
                clear hr
                go_wp2
                go_round
                case rel => exact SRel.mk hp2 (by omega) HN2.out
                case measure => simp [intOf]; omega
            · have hdone := Lib.hid (HS.out.done (by omega))
              have ht4 := Lib.hid (tmod_one (f := f) (p := 4) (by decide))
              have h4e : (m : Int) % 4 = ((m % 4 : Nat) : Int) := by simp
              have h4d : 4 ∣ m ↔ m % 4 = 0 := Nat.dvd_iff_mod_eq_zero
              cases full with
              | false =>
                have hf0 : full0 = false := by
                  cases full0 with
                  | false => rfl
                  | true => exact absurd (hdone.out.2 (hfull.out.1 rfl).1) (by decide)
                subst hf0
                clear h4e h4d
                go_wp2_with fail
                refine (HF.out _).mono ?_
                rintro e w9 ⟨rfl, hb9⟩
                go_wp2
                go_ret
                exact ⟨rfl, BQ.out.trans (hb9.mono BQ.out.size)⟩
              | true =>
                by_cases h4 : m % 4 = 0
                · have h4' : ((m : Int) % 4 == 0) = true := by rw [h4e, h4]; rfl
                  have h42 : ((m : Int) % 4 != 0) = false := by rw [bne, h4']; rfl
                  by_cases hf1 : ((f : Int) - 1).tmod 4 = 0
                  · have hf0 : full0 = true := hfull.out.2 ⟨hdone.out.1 rfl, fun _ => ht4.out.1 hf1⟩
                    subst hf0
                    have hf1b : (((f : Int) - 1).tmod 4 == 0) = true := by rw [hf1]; rfl
                    clear hf1
                    clear h4e h4d h4
                    go_wp2_with fail
                    refine (HF.out _).mono ?_
                    rintro e w9 ⟨rfl, hb9⟩
                    go_wp2
                    go_ret
                    exact ⟨rfl, BQ.out.trans (hb9.mono BQ.out.size)⟩
                  · have hf0 : full0 = false := by
                      cases full0 with
                      | false => rfl
                      | true => exact absurd (ht4.out.2 ((hfull.out.1 rfl).2 (h4d.2 h4))) hf1
                    subst hf0
                    have hf1b : (((f : Int) - 1).tmod 4 == 0) = false := by simpa using hf1
                    clear hf1
                    clear h4e h4d h4
                    go_wp2_with fail
                    refine (HF.out _).mono ?_
                    rintro e w9 ⟨rfl, hb9⟩
                    go_wp2
                    go_ret
                    exact ⟨rfl, BQ.out.trans (hb9.mono BQ.out.size)⟩
                · have h4' : ((m : Int) % 4 == 0) = false := by rw [h4e]; simp; omega
                  have h42 : ((m : Int) % 4 != 0) = true := by rw [bne, h4']; rfl
                  have hf0 : full0 = true := hfull.out.2 ⟨hdone.out.1 rfl, fun h => absurd (h4d.1 h) h4⟩
                  subst hf0
                  clear h4e h4d h4
                  go_wp2_with fail
                  refine (HF.out _).mono ?_
                  rintro e w9 ⟨rfl, hb9⟩
                  go_wp2
                  go_ret
                  exact ⟨rfl, BQ.out.trans (hb9.mono BQ.out.size)⟩
end Go.Proofs.Ytpflbcdbmainiaa.Cycled

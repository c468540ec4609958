/- The star distance, of the program: printed by stargeni.py. -/
import Derived.Test.YtjkcdnfmmfpbjaaStarH
import Derived.Laws.Cover1
namespace Go.Proofs.Ytjkcdnfmmfpbjaa.Star
open Go.RowKit Go.Proofs.Ytjkcdnfmmfpbjaa Go.Proofs.Ytjkcdnfmmfpbjaa.Base Go.Proofs.Ytjkcdnfmmfpbjaa.Mem Go.Proofs.Ytjkcdnfmmfpbjaa.Inv Go.Proofs.Ytjkcdnfmmfpbjaa.Pts Go.Proofs.Ytjkcdnfmmfpbjaa.StarM Go.Proofs.Ytjkcdnfmmfpbjaa.Cpy
set_option linter.unusedVariables false
set_option maxHeartbeats 4000000 in
set_option maxRecDepth 100000 in
theorem implStar1_yes (A : Option Addr) (c B b : Nat) (xss : List (List Int)) (w : World) (hx : RdII w B A xss) (hB : B ≤ w.heap.size) (hl : xss.length ≤ 1048576) (hm : tot xss ≤ 1048576) (hv : ptsB xss b = true) (hs : (xss.getD 0 []).length = 1) :
    Calls Try.prog 27 #[.slice A xss.length c, .int .i64 b] w (StarRet (allI (pa xss) (pb false xss) xss.length (2 ^ b) (2 ^ b + 1)).toNat (xss.length * 2 ^ b) w) := by
  obtain ⟨bb, off, rfl, hp, hbd⟩ := pts_of hx hv hs
  obtain ⟨q1, q2, q3, q4, _, _, _⟩ := ptsB_true hv
  obtain ⟨W1, hW1⟩ : ∃ W, W = w.alloc (.cells #[.int .i64 0, .int .i64 0] 23) := ⟨_, rfl⟩
  have b1 : Below w.heap.size w W1 := by rw [hW1]; exact (Below.refl _ _).alloc (Nat.le_refl _) _
  have z1 : W1.heap.size = w.heap.size + 1 := by rw [hW1]; simp
  have HLi := Lib.hid (implIsPoints_any (some ⟨bb, off, none⟩) c B b xss W1 (hx.below b1 hB) (by omega) hl hm)
  rw [hv] at HLi
  have HR : Hid (Res0 W1 w.heap.size) := Lib.hid (by rw [hW1]; exact ⟨World.cell?_alloc_new w _ _ 0, World.cell?_alloc_new w _ _ 1, by simp, by simp⟩)
  have HP1 := Lib.hid (hp.below b1 hB)
  have B1 := Lib.hid b1
  have hb6 : b ≤ 6 := by omega
  have hn1 : 1 ≤ xss.length := by omega
  have hn64 : xss.length ≤ 64 := by omega
  obtain ⟨p1, p2⟩ := pw_bd6 hb6
  have ho : ((2 ^ b : Nat) : Int) = (2 : Int) ^ b := by simp
  have ho2 := Nat.two_pow_pos b
  have ho64 : 2 ^ b ≤ 64 := Nat.pow_le_pow_right (show 0 < 2 by decide) hb6
  have e2 : decide ((1 : Nat) = 2) = false := rfl
  rw [e2] at hp hbd HP1
  clear hx hv hs hl hm hp b1 q1 q2 q3 q4 e2
  generalize pa xss = pa at *
  have hpb0 : ∀ k, pb false xss k = 0 := fun _ => rfl
  generalize pb false xss = pb at *
  generalize xss.length = n at *
  go_enter Try.func27, Try.ntmps27
  go_wp2_with fail
  rw [← hW1]
  refine HLi.out.mono ?_
  rintro e w1 ⟨rfl, D1⟩
  have z2 := D1.size
  have HP9 := Lib.hid (HP1.out.below D1 (by omega))
  have HR9 := Lib.hid (HR.out.below D1 (by omega))
  have B9 := Lib.hid (B1.out.trans (D1.mono B1.out.size))
  have lz : w.heap.size < w1.heap.size := by omega
  obtain ⟨W9, rfl⟩ : ∃ W, W = w1 := ⟨_, rfl⟩
  obtain ⟨b0, o0, c0, l0, g0, _, _⟩ := HP9.out.2 0 (by omega)
  rw [Nat.add_zero] at g0
  clear D1 HP1 HR HLi B1 hW1
  go_wp2_with fail
  go_quiet ((go_at_call 54; exact Calls.quiet_of_same ((AllIn.lenS_any _ _ _ _ (by omega)).mono fun _ _ h => ⟨h.1, h.2.symm⟩)))
  go_wp2_with fail
  rw [← ho] at *
  clear hbd ho g0 l0
  have HD9 : Hid (Drawn W9 (W9.drewN nq)) := Lib.hid ⟨nq, rfl⟩
  generalize W9.drewN nq = W8 at *
  generalize hob : 2 ^ b = o at *
  have HOb := Lib.hid hob
  have hnn : (n : Int) ≤ 64 := by omega
  clear hob p1 p2
  go_loopw [9, 46] (fun mv xv wr => ∃ x : Nat, x ≤ o + 1 ∧ xv = .int .i64 (x : Int) ∧ mv = .int .i64 (allI pa pb n o x) ∧ Hid (Drawn W9 wr)) (fun _ xv _ => o + 1 - (intOf xv).toNat)
  case atStart => exact ⟨0, Nat.zero_le _, rfl, rfl, Lib.hid HD9.out⟩
  case round =>
    obtain ⟨x, hx, rfl, rfl, hD1⟩ := hrel
    obtain ⟨W1, rfl⟩ : ∃ W, W = wr := ⟨_, rfl⟩
    obtain ⟨m0, m1⟩ := allI_bd (pa := pa) (pb := pb) (n := n) (o := o) x hx
    by_cases hxt : x < o + 1
    · have HA : Hid (allI pa pb n o (x + 1) = stepI pa pb n o x (allI pa pb n o x)) := Lib.hid rfl
      skip
      generalize allI pa pb n o x = M at *
      clear m0 m1
      have hxi : (x : Int) < (o : Int) + 1 := by omega
      have hki : (n : Int) ≤ 64 := by omega
      go_wp2_with fail
      go_loopw [9, 51] (fun mv yv wr => ∃ y : Nat, y ≤ 0 + 1 ∧ yv = .int .i64 (y : Int) ∧ mv = .int .i64 (if y = 0 then M else stepI pa pb n o x M) ∧ Hid (Drawn W9 wr)) (fun _ yv _ => 0 + 1 - (intOf yv).toNat)
      case atStart => exact ⟨0, Nat.zero_le _, rfl, rfl, Lib.hid hD1.out⟩
      case round =>
        obtain ⟨y, hy, rfl, rfl, hD2⟩ := hrel
        obtain ⟨W2, rfl⟩ : ∃ W, W = wr := ⟨_, rfl⟩
        clear hD1
        by_cases hyt : y < 0 + 1
        · have hy0 : y = 0 := by omega
          rw [if_pos hy0]
          clear hy0
          have HS : Hid (stepI pa pb n o x M = stepI pa pb n o x M) := Lib.hid rfl
          go_wp2_with fail
          go_loopw [14, 15, 62] (fun ov cv kv wr => ∃ k : Nat, k ≤ n ∧ kv = .int .i64 (k : Int) ∧ ov = .int .i64 ((cO pa pb x o k : Nat) : Int) ∧ cv = .int .i64 ((cC pa pb x o k : Nat) : Int) ∧ Hid (Drawn W9 wr)) (fun _ _ kv _ => n - (intOf kv).toNat)
          case atStart => exact ⟨0, Nat.zero_le _, rfl, rfl, rfl, Lib.hid hD2.out⟩
          case round =>
            obtain ⟨k, hk, rfl, rfl, rfl, hD3⟩ := hrel
            obtain ⟨W3, rfl⟩ : ∃ W, W = wr := ⟨_, rfl⟩
            clear hD2
            have l1 := cO_le pa pb x o k
            have l2 := cC_le pa pb x o k
            by_cases hkt : k < n
            · obtain ⟨b3, o3, c3, _, g3, g4, g5⟩ := (HP9.out.below (hD3.out.below (B := B)) (Nat.le_refl _)).2 k hkt
              have hd0 := hpb0 k
              have HO : Hid (cO pa pb x o (k + 1) = cO pa pb x o k + if pa k < x ∧ pb k < o then 1 else 0) := Lib.hid rfl
              have HC : Hid (cC pa pb x o (k + 1) = cC pa pb x o k + if pa k ≤ x ∧ pb k ≤ o then 1 else 0) := Lib.hid rfl
              generalize cO pa pb x o k = Q at *
              generalize cC pa pb x o k = R at *
              generalize pa k = a at *
              generalize pb k = d at *
              clear HA HS hxi
              rcases cmp3 a x with ⟨h1, k1, k2⟩ | ⟨h1, k1, k2⟩ | ⟨h1, k1, k2⟩
              all_goals
                have HH := Lib.hid (And.intro h1 hd0)
                clear h1
                go_wp2
                go_quiet (fail)
                go_wp2
                go_roundw
                case rel => exact ⟨k + 1, hkt, by go_num, by rw [HO.out]; have := HH.out; split <;> first | go_num | (exfalso; omega), by rw [HC.out]; have := HH.out; split <;> first | go_num | (exfalso; omega), Lib.hid (by first | exact (hD3.out.next _) | exact (hD3.out.next _).next _)⟩
                case measure => simp [intOf]; omega
            · obtain rfl : k = n := by omega
              obtain ⟨P, e2, i2, eP⟩ := prod2 x k (by omega) hn64
              obtain ⟨Q, e4, i4, eQ⟩ := prod2 (cO pa pb x o k) o (by omega) ho64
              obtain ⟨R, e5, i5, eR⟩ := prod2 (cC pa pb x o k) o (by omega) ho64
              have HS : Hid (stepI pa pb k o x M = max (max M ((P : Int) - (Q : Int))) ((R : Int) - (P : Int))) := Lib.hid (by unfold stepI; rw [eP, eQ, eR])
              clear eP eQ eR
              generalize cO pa pb x o k = q at *
              generalize cC pa pb x o k = r at *
              rcases max3 M ((P : Int) - (Q : Int)) ((R : Int) - (P : Int)) with ⟨hh, k5, k6⟩ | ⟨hh, k5, k6⟩ | ⟨hh, k5, k6⟩ | ⟨hh, k5, k6⟩
              all_goals
                go_wp2
                go_roundw
                case rel => exact ⟨y + 1, by omega, by go_num, by rw [if_neg (by omega), HS.out, hh.out], Lib.hid hD3.out⟩
                case measure => first | (simp [intOf]; done) | (simp [intOf]; omega)
        · obtain rfl : y = 0 + 1 := by omega
          go_wp2
          go_roundw
          case rel => exact ⟨x + 1, by omega, by go_num, by first | (rw [HA.out]; done) | (rw [HA.out]; rfl), Lib.hid hD2.out⟩
          case measure => simp [intOf]; omega
    · obtain rfl : x = o + 1 := by omega
      obtain ⟨V, hV⟩ := Int.eq_ofNat_of_zero_le m0
      have HVV := Lib.hid hV
      obtain ⟨U, e1, i1, eU⟩ := prod2 n o hn64 ho64
      have HU := Lib.hid eU
      have hVU : V ≤ U := by rw [hV, eU] at m1; omega
      have hU0 : 0 < U := by rw [← eU]; exact Nat.mul_pos (by omega) ho2
      have HQ := Lib.hid (fun W => quotient_any V U W (by omega) (by omega) hU0)
      have HF := Lib.hid (fun A A' c c' W hx hy => fraction_any (V / Nat.gcd V U) (U / Nat.gcd V U) A A' c c' W hx hy (Nat.le_trans (Nat.div_le_self _ _) (by omega)) (Nat.le_trans (Nat.div_le_self _ _) (by omega)))
      have HE : Hid (Value.agg #[.int .i64 ((V / Nat.gcd V U : Nat) : Int), .int .i64 ((U / Nat.gcd V U : Nat) : Int)] = fracV (allI pa pb n o (o + 1)).toNat (n * o)) := Lib.hid (by rw [HVV.out, HU.out, Int.toNat_natCast]; rfl)
      rw [hV]
      clear hV m1 m0
      generalize V / Nat.gcd V U = N at *
      generalize U / Nat.gcd V U = D at *
      go_wp2_with fail
      rw [shl_one HOb.out HU.out i1]
      refine (HQ.out _).mono ?_
      rintro e w2 ⟨A1, c1, A2, c2, rfl, r1, r2, hb2⟩
      have HFF := Lib.hid (HF.out A1 A2 c1 c2 w2 r1 r2)
      have hD1b : Below W9.heap.size W9 W1 := hD1.out.below
      have HB2 := Lib.hid (hD1b.trans (hb2.mono hD1b.size))
      clear r1 r2 hb2 HF HQ
      go_wp2_with fail
      refine HFF.out.mono ?_
      rintro e w3 ⟨rfl, hb3⟩
      have HB3 := Lib.hid (HB2.out.trans (hb3.mono HB2.out.size))
      obtain ⟨d0, d1, z0, z1'⟩ := HR9.out.below HB3.out lz
      obtain ⟨t1, t2, t3⟩ := two_cells (v0 := .int .i64 (N : Int)) (v1 := .int .i64 (D : Int)) d0 d1
      have HB4 := Lib.hid (((B9.out.trans (HB3.out.mono B9.out.size)).setCell (p := ⟨w.heap.size, 0, none⟩) (Nat.le_refl _) (.int .i64 (N : Int))).setCell (p := ⟨w.heap.size, 1, none⟩) (Nat.le_refl _) (.int .i64 (D : Int)))
      clear hb3 HFF HB2 HB3
      go_wp2
      refine bodyPost_ret (v := .tuple #[.agg #[.int .i64 (N : Int), .int .i64 (D : Int)], .bool true]) (by simp [results, Try.results27, go_sem, t2, t3]) rfl ⟨by rw [HE.out], HB4.out⟩
end Go.Proofs.Ytjkcdnfmmfpbjaa.Star

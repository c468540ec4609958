/- The star distance, of the reference: printed by stargen.py. -/
import Derived.Test.YtjkcdnfmmfpbjaaStarM
import Derived.Test.YtjkcdnfmmfpbjaaInvT
import Derived.Test.YtjkcdnfmmfpbjaaBox
import Derived.Test.YtjkcdnfmmfpbjaaCopy
namespace Go.Proofs.Ytjkcdnfmmfpbjaa.Star
open Go.RowKit Go.Proofs.Ytjkcdnfmmfpbjaa Go.Proofs.Ytjkcdnfmmfpbjaa.Base Go.Proofs.Ytjkcdnfmmfpbjaa.Mem Go.Proofs.Ytjkcdnfmmfpbjaa.Inv Go.Proofs.Ytjkcdnfmmfpbjaa.Pts Go.Proofs.Ytjkcdnfmmfpbjaa.StarM Go.Proofs.Ytjkcdnfmmfpbjaa.Cpy
set_option linter.unusedVariables false
theorem l00Max2_any (a b : Int) (w : World) : Calls Try.prog 51 #[.int .i64 a, .int .i64 b] w fun e w' => e = .returned (.int .i64 (max a b)) ∧ w = w' := by
  by_cases h : b < a
  · go_enter Try.func51, Try.ntmps51
    go_wp2
    go_ret
    exact ⟨ret_int (by omega), rfl⟩
  · go_enter Try.func51, Try.ntmps51
    go_wp2
    go_ret
    exact ⟨ret_int (by omega), rfl⟩
theorem fMakeL_any (v u : Nat) (hv : v ≤ 36000000) (hu0 : 0 < u) (hu : u ≤ 36000000) (w : World) : Calls Try.prog 52 #[.int .i64 (v : Int), .int .i64 (u : Int)] w fun e w' => e = .returned (fracV v u) ∧ Below w.heap.size w w' := by
  have hg0 : 0 < Nat.gcd v u := Nat.gcd_pos_of_pos_right v (by omega)
  have hg1 : Nat.gcd v u ≤ u := Nat.gcd_le_right v (by omega)
  have e1 : (v : Int) / ((Nat.gcd v u : Nat) : Int) = ((v / Nat.gcd v u : Nat) : Int) := by simp
  have e2 : (u : Int) / ((Nat.gcd v u : Nat) : Int) = ((u / Nat.gcd v u : Nat) : Int) := by simp
  have b1 : v / Nat.gcd v u ≤ v := Nat.div_le_self _ _
  have b2 : u / Nat.gcd v u ≤ u := Nat.div_le_self _ _
  have HM := Lib.hid (fun W => l00Max_any v (by omega) W)
  have HG := Lib.hid (fun W => l01Gcd_any v u (by omega) hu W)
  unfold fracV
  generalize v / Nat.gcd v u = N at *
  generalize u / Nat.gcd v u = D at *
  generalize Nat.gcd v u = G at *
  go_enter Try.func52, Try.ntmps52
  go_wp2_with fail
  refine (HM.out _).mono ?_
  rintro e w1 ⟨rfl, rfl⟩
  go_wp2_with fail
  refine (HG.out _).mono ?_
  rintro e w1 ⟨rfl, rfl⟩
  go_wp2
  go_region
  go_wp2
  refine bodyPost_ret (v := .agg #[.int .i64 (N : Int), .int .i64 (D : Int)]) (by simp [results, Try.results52, go_sem]) rfl ⟨rfl, ?_⟩
  exact ((Below.refl _ _).alloc (Nat.le_refl _) _).drew
/-- the coordinates of the points -/
def pa (xss : List (List Int)) (k : Nat) : Nat := ((xss.getD k []).getD 0 0).toNat
def pb (two : Bool) (xss : List (List Int)) (k : Nat) : Nat := if two then ((xss.getD k []).getD 1 0).toNat else 0
/-- n points with s sides, read from memory -/
def PtsR (W : World) (B bb off n s : Nat) (pa pb : Nat → Nat) : Prop :=
  bb < B ∧ ∀ k, k < n → ∃ b1 o1 c1, b1 < B ∧ W.cell? ⟨bb, off + k, none⟩ = some (.slice (some ⟨b1, o1, none⟩) s c1) ∧ W.cell? ⟨b1, o1, none⟩ = some (.int .i64 (pa k : Nat)) ∧ (s = 2 → W.cell? ⟨b1, o1 + 1, none⟩ = some (.int .i64 (pb k : Nat)))
theorem PtsR.below {W W' : World} {B C bb off n s : Nat} {pa pb : Nat → Nat} (h : PtsR W B bb off n s pa pb) (hb : Below C W W') (hBC : B ≤ C) : PtsR W' B bb off n s pa pb := by
  refine ⟨h.1, fun k hk => ?_⟩
  obtain ⟨b1, o1, c1, hl, g1, g2, g3⟩ := h.2 k hk
  have hbb := h.1
  exact ⟨b1, o1, c1, hl, (hb.cell (p := ⟨bb, off + k, none⟩) (show bb < C by omega)).trans g1, (hb.cell (p := ⟨b1, o1, none⟩) (show b1 < C by omega)).trans g2, fun e => (hb.cell (p := ⟨b1, o1 + 1, none⟩) (show b1 < C by omega)).trans (g3 e)⟩
theorem pts_of {w : World} {B b s : Nat} {A : Option Addr} {xss : List (List Int)} (hx : RdII w B A xss) (hv : ptsB xss b = true) (hs : (xss.getD 0 []).length = s) :
    ∃ bb off, A = some ⟨bb, off, none⟩ ∧ PtsR w B bb off xss.length s (pa xss) (pb (decide (s = 2)) xss) ∧ ∀ k, k < xss.length → pa xss k < 2 ^ b ∧ pb (decide (s = 2)) xss k < 2 ^ b := by
  obtain ⟨q1, q2, q3, q4, q5, q6, q7⟩ := ptsB_true hv
  rw [hs, Int.toNat_natCast] at q7
  obtain ⟨bb, off, e, hlt, hc⟩ := hx (by omega)
  have ep : ((2 ^ b : Nat) : Int) = (2 : Int) ^ b := by simp
  refine ⟨bb, off, e, ⟨hlt, fun k hk => ?_⟩, fun k hk => ?_⟩
  · obtain ⟨r1, r2⟩ := Shift.row_at q7 hk
    obtain ⟨A1, c1, g1, g2⟩ := hc k hk
    rw [hs] at q5
    obtain ⟨b1, o1, rfl, hl1, hc1⟩ := g2 (by omega)
    rw [r1] at g1
    have h0 := r2 0 (by omega)
    refine ⟨b1, o1, c1, hl1, g1, ?_, fun e => ?_⟩
    · have := hc1 0 (by omega)
      rw [Nat.add_zero] at this
      rw [this, pa, Int.toNat_of_nonneg h0.1]
    · have h1 := r2 1 (by omega)
      rw [hc1 1 (by omega), pb, if_pos (by simp [e]), Int.toNat_of_nonneg h1.1]
  · obtain ⟨r1, r2⟩ := Shift.row_at q7 hk
    rw [hs] at q5
    have h0 := r2 0 (by omega)
    have hp := Nat.two_pow_pos b
    refine ⟨by unfold pa; omega, ?_⟩
    unfold pb
    split
    · rename_i e
      have h1 := r2 1 (by simp at e; omega)
      omega
    · exact hp
/-- the cells of a result that is not laid yet -/
def Res0 (W : World) (b : Nat) : Prop := W.cell? ⟨b, 0, none⟩ = some (.int .i64 0) ∧ W.cell? ⟨b, 1, none⟩ = some (.int .i64 0) ∧ W.frozen? ⟨b, 0, none⟩ = false ∧ W.frozen? ⟨b, 1, none⟩ = false
theorem Res0.below {W W' : World} {b C : Nat} (h : Res0 W b) (hb : Below C W W') (hC : b < C) : Res0 W' b :=
  ⟨(hb.cell (p := ⟨b, 0, none⟩) hC).trans h.1, (hb.cell (p := ⟨b, 1, none⟩) hC).trans h.2.1, (hb.frozen (p := ⟨b, 0, none⟩) hC).trans h.2.2.1, (hb.frozen (p := ⟨b, 1, none⟩) hC).trans h.2.2.2⟩
def secL (p : Nat → Nat) (n : Nat) : List Int := (List.range n).map fun k => ((p k : Nat) : Int)
theorem secL_len (p : Nat → Nat) (n : Nat) : (secL p n).length = n := by simp [secL]
theorem secL_at (p : Nat → Nat) (n k : Nat) (h : k < n) : (secL p n).getD k 0 = (p k : Nat) := by simp [secL, List.getD, h]
/-- products that the walk meets -/
theorem prod3 (a b c : Nat) (ha : a ≤ 64) (hb : b ≤ 64) (hc : c ≤ 64) : ∃ P Q : Nat, (a : Int) * (b : Int) = (P : Int) ∧ (P : Int) * (c : Int) = (Q : Int) ∧ P ≤ 4096 ∧ Q ≤ 262144 ∧ a * b * c = Q := by
  have h1 := Nat.mul_le_mul ha hb
  have h2 := Nat.mul_le_mul h1 hc
  exact ⟨a * b, a * b * c, by simp, by simp, h1, h2, rfl⟩
/-- the fraction that is returned -/
def StarRet (v u : Nat) (w : World) (e : Ending) (w' : World) : Prop := e = .returned (.tuple #[fracV v u, .bool true]) ∧ Below w.heap.size w w'
set_option maxHeartbeats 4000000 in
set_option maxRecDepth 100000 in
theorem specStar2_yes (A : Option Addr) (c B b : Nat) (xss : List (List Int)) (w : World) (hx : RdII w B A xss) (hB : B ≤ w.heap.size) (hl : xss.length ≤ 1048576) (hm : tot xss ≤ 1048576) (hv : ptsB xss b = true) (hs : (xss.getD 0 []).length = 2) :
    Calls Try.prog 25 #[.slice A xss.length c, .int .i64 b] w (StarRet (allS true (pa xss) (pb true xss) xss.length (2 ^ b) (2 ^ b + 1)).toNat (xss.length * 2 ^ b * 2 ^ b) w) := by
  obtain ⟨bb, off, rfl, hp, hbd⟩ := pts_of hx hv hs
  obtain ⟨q1, q2, q3, q4, _, _, _⟩ := ptsB_true hv
  obtain ⟨W1, hW1⟩ : ∃ W, W = w.alloc (.cells #[.int .i64 0, .int .i64 0] 23) := ⟨_, rfl⟩
  have b1 : Below w.heap.size w W1 := by rw [hW1]; exact (Below.refl _ _).alloc (Nat.le_refl _) _
  have HLi := Lib.hid (l10List_any (some ⟨bb, off, none⟩) c B b xss W1 (hx.below b1 hB) hl hm)
  rw [hv] at HLi
  have z1 : W1.heap.size = w.heap.size + 1 := by rw [hW1]; simp
  have HR : Hid (Res0 W1 w.heap.size) := Lib.hid (by rw [hW1]; exact ⟨World.cell?_alloc_new w _ _ 0, World.cell?_alloc_new w _ _ 1, by simp, by simp⟩)
  have HP1 := Lib.hid (hp.below b1 hB)
  have B1 := Lib.hid b1
  have hb6 : b ≤ 6 := by omega
  have hn1 : 1 ≤ xss.length := by omega
  have hn64 : xss.length ≤ 64 := by omega
  obtain ⟨p1, p2⟩ := pw_bd6 hb6
  have ho : ((2 ^ b : Nat) : Int) = (2 : Int) ^ b := by simp
  have ho2 := Nat.two_pow_pos b
  have ho64 : 2 ^ b ≤ 64 := Nat.pow_le_pow_right (show 0 < 2 by decide) hb6
  have e2 : decide ((2 : Nat) = 2) = true := rfl
  rw [e2] at hp hbd HP1
  clear hx hv hs hl hm hp b1 q1 q2 q3 q4 e2
  generalize pa xss = pa at *
  generalize pb true xss = pb at *
  generalize xss.length = n at *
  have hmk := run_make_row' (P := Try.prog) 28 2 (.int .i64 0) 8 Try.underlying28 infoI rfl .i64 .i64 n (by omega) (by omega)
  have HMk := Lib.hid hmk
  clear hmk
  go_enter Try.func25, Try.ntmps25
  go_wp2_with fail
  rw [← hW1]
  refine HLi.out.mono ?_
  rintro e w1 ⟨rfl, hd1⟩
  have D1 : Below W1.heap.size W1 w1 := hd1.below
  have z2 := D1.size
  have HP2 := Lib.hid (HP1.out.below D1 (by omega))
  have HR2 := Lib.hid (HR.out.below D1 (by omega))
  have B2 := Lib.hid (B1.out.trans (D1.mono B1.out.size))
  obtain ⟨b0, o0, c0, l0, g0, _, _⟩ := HP2.out.2 0 (by omega)
  have l1 := HP2.out.1
  have l0' : b0 < w1.heap.size := by omega
  have l1' : bb < w1.heap.size := by omega
  rw [Nat.add_zero] at g0
  clear D1 hd1 HP1 HR HLi B1 hW1
  have hmk := HMk.out
  go_wp2_with fail
  clear hmk HMk
  rw [← ho] at *
  clear ho hbd
  generalize hob : 2 ^ b = o at *
  clear hob p1 p2
  have hsl : (secL pb n).length = n := secL_len pb n
  have H0 : Hid (ToRel w1.heap.size w1.heap.size (secL pb n) w1 (.int .i64 0) (w1.alloc (.cells (madeCells #[.int .i64 0] n) 2))) := Lib.hid (by
    refine ⟨0, Nat.zero_le _, rfl, ?_, (Below.refl _ _).alloc (Nat.le_refl _) _⟩
    rw [hsl]
    have := World.ownsRow_lit (e := 2) (size := 1) (base := w1.heap.size) w1 (madeCells #[.int .i64 0] n) n (Nat.le_refl _) (by simp [maxLen]; omega) (by simp [size_madeCells])
    rw [toList_madeCells_one] at this
    simpa using this)
  have HSL := Lib.hid hsl
  clear hsl g0 l0'
  go_loopw [9] (fun i wr => ToRel w1.heap.size w1.heap.size (secL pb n) w1 i wr) (fun i _ => n - (intOf i).toNat)
  case atStart => exact H0.out
  case round =>
    obtain ⟨j, hj, rfl, hrow, hb⟩ := hrel
    clear H0
    rw [HSL.out] at hj
    by_cases hlt : j < n
    · obtain ⟨b3, o3, c3, l3, g3, _, g5⟩ := (HP2.out.below hb (by omega)).2 j hlt
      have g5 := g5 rfl
      have hcell := hrow.cellAt j (by rw [HSL.out]; omega)
      rw [half_get _ _ _ _ (by rw [HSL.out]; exact hlt)] at hcell
      have hfz := hrow.frozenAt j
      have HN := Lib.hid (ToRel.next (by rw [HSL.out]; exact hlt) (Nat.le_refl _) hrow hb)
      rw [secL_at pb n j hlt] at HN
      generalize pb j = y at *
      clear hrow hb
      go_wp2
      go_roundw
      case rel => exact HN.out
      case measure => simp [intOf]; omega
    · obtain rfl : j = n := by omega
      have hrd : ∀ k, k < j → wr.cell? ⟨w1.heap.size, k, none⟩ = some (.int .i64 ((pb k : Nat) : Int)) := fun k hk => by
        rw [HSL.out, Nat.sub_self, List.replicate_zero, List.append_nil, List.take_of_length_le (by rw [HSL.out]; exact Nat.le_refl _)] at hrow
        have h1 := hrow.cellAt k (by omega)
        rw [h1, show List.map (Value.int .i64) (secL pb j) = ints (secL pb j) from rfl, ints_get _ _ (by rw [HSL.out]; omega), secL_at pb j k hk]
      obtain ⟨n, rfl⟩ : ∃ n, n = j := ⟨_, rfl⟩
      have HS9 := Lib.hid hrd
      have HP9 := Lib.hid (HP2.out.below hb (by omega))
      have hbz := hb.size
      have lz : w1.heap.size < wr.heap.size := block_lt_of_cell (hrd 0 (by omega))
      have B9 := Lib.hid (B2.out.trans (hb.mono (by omega)))
      have HR9 : Hid _ := Lib.hid (Res0.below HR2.out hb (by omega))
      obtain ⟨W9, rfl⟩ : ∃ W, W = wr := ⟨_, rfl⟩
      clear hrow hb hbz HSL HP2 HR2 B2 hrd hj hlt
      have hnn : (n : Int) ≤ 64 := by omega
      obtain ⟨b0, o0, c0, _, g0, _, _⟩ := HP9.out.2 0 (by omega)
      rw [Nat.add_zero] at g0
      have hb0 := HP9.out.1
      go_wp2_with fail
      go_loop [10, 11] (fun mv xv => ∃ x : Nat, x ≤ o + 1 ∧ xv = .int .i64 (x : Int) ∧ mv = .int .i64 (allS true pa pb n o x)) (fun _ xv => o + 1 - (intOf xv).toNat)
      case atStart => exact ⟨0, Nat.zero_le _, rfl, rfl⟩
      case round =>
        obtain ⟨x, hx, rfl, rfl⟩ := hrel
        obtain ⟨m0, m1⟩ := allS_bd (two := true) (pa := pa) (pb := pb) (n := n) (o := o) x hx
        by_cases hxt : x < o + 1
        · have HA : Hid (allS true pa pb n o (x + 1) = rowS true pa pb n o x (allS true pa pb n o x) (o + 1)) := Lib.hid rfl
          have HBd := Lib.hid (fun y (hy : y ≤ o + 1) => rowS_bd (two := true) (pa := pa) (pb := pb) (n := n) (o := o) (x := x) (by omega) m0 m1 y hy)
          generalize allS true pa pb n o x = M at *
          clear m0 m1
          go_wp2_with fail
          go_loop [10, 12] (fun mv yv => ∃ y : Nat, y ≤ o + 1 ∧ yv = .int .i64 (y : Int) ∧ mv = .int .i64 (rowS true pa pb n o x M y)) (fun _ yv => o + 1 - (intOf yv).toNat)
          case atStart => exact ⟨0, Nat.zero_le _, rfl, rfl⟩
          case round =>
            obtain ⟨y, hy, rfl, rfl⟩ := hrel
            by_cases hyt : y < o + 1
            · have HS : Hid (rowS true pa pb n o x M (y + 1) = stepD pa pb n o x y (rowS true pa pb n o x M y)) := Lib.hid (rowS_succ _ _ _ _ _ _ _ _ (by simp))
              generalize rowS true pa pb n o x M y = G at *
              go_wp2_with fail
              go_loop [13, 14, 15] (fun ov cv kv => ∃ k : Nat, k ≤ n ∧ kv = .int .i64 (k : Int) ∧ ov = .int .i64 ((cO pa pb x y k : Nat) : Int) ∧ cv = .int .i64 ((cC pa pb x y k : Nat) : Int)) (fun _ _ kv => n - (intOf kv).toNat)
              case atStart => exact ⟨0, Nat.zero_le _, rfl, rfl, rfl⟩
              case round =>
                obtain ⟨k, hk, rfl, rfl, rfl⟩ := hrel
                have l1 := cO_le pa pb x y k
                have l2 := cC_le pa pb x y k
                by_cases hkt : k < n
                · obtain ⟨b3, o3, c3, _, g3, g4, _⟩ := HP9.out.2 k hkt
                  have g5 := HS9.out k hkt
                  have HO : Hid (cO pa pb x y (k + 1) = cO pa pb x y k + if pa k < x ∧ pb k < y then 1 else 0) := Lib.hid rfl
                  have HC : Hid (cC pa pb x y (k + 1) = cC pa pb x y k + if pa k ≤ x ∧ pb k ≤ y then 1 else 0) := Lib.hid rfl
                  generalize cO pa pb x y k = Q at *
                  generalize cC pa pb x y k = R at *
                  generalize pa k = a at *
                  generalize pb k = d at *
                  clear HA HBd HS
                  rcases Nat.lt_trichotomy a x with h1 | h1 | h1 <;> rcases Nat.lt_trichotomy d y with h2 | h2 | h2
                  all_goals
                    have HH := Lib.hid (And.intro h1 h2)
                    first | subst h1 | skip
                    first | subst h2 | skip
                    go_wp2
                    go_round
                    case rel => exact ⟨k + 1, hkt, by go_num, by rw [HO.out]; have := HH.out; split <;> first | go_num | (exfalso; omega), by rw [HC.out]; have := HH.out; split <;> first | go_num | (exfalso; omega)⟩
                    case measure => simp [intOf]; omega
                · obtain rfl : k = n := by omega
                  obtain ⟨P1, P, e1, e2, i1, i2, eP⟩ := prod3 x y k (by omega) (by omega) hn64
                  obtain ⟨Q1, Q, e3, e4, i3, i4, eQ⟩ := prod3 (cO pa pb x y k) o o (by omega) ho64 ho64
                  obtain ⟨R1, R, e5, e6, i5, i6, eR⟩ := prod3 (cC pa pb x y k) o o (by omega) ho64 ho64
                  unfold stepD at HS
                  rw [eP, eQ, eR] at HS
                  clear eP eQ eR
                  generalize cO pa pb x y k = q at *
                  generalize cC pa pb x y k = r at *
                  go_wp2_with (go_at_call 51; refine (l00Max2_any _ _ _).mono ?_; rintro e w' ⟨rfl, rfl⟩)
                  go_round
                  case rel => exact ⟨y + 1, by omega, by go_num, by rw [HS.out]; go_num⟩
                  case measure => simp [intOf]; omega
            · obtain rfl : y = o + 1 := by omega
              go_wp2
              go_round
              case rel => exact ⟨x + 1, by omega, by go_num, by rw [HA.out]⟩
              case measure => simp [intOf]; omega
        · obtain rfl : x = o + 1 := by omega
          obtain ⟨V, hV⟩ := Int.eq_ofNat_of_zero_le m0
          obtain ⟨U1, U, e1, e2, i1, i2, eU⟩ := prod3 n o o hn64 ho64 ho64
          have hVU : V ≤ U := by rw [hV, eU] at m1; omega
          have hU0 : 0 < U := by rw [← eU]; exact Nat.mul_pos (Nat.mul_pos (by omega) ho2) ho2
          have HF := Lib.hid (fun W => fMakeL_any V U (by omega) hU0 (by omega) W)
          have HE : Hid (Value.agg #[.int .i64 ((V / Nat.gcd V U : Nat) : Int), .int .i64 ((U / Nat.gcd V U : Nat) : Int)] = fracV (allS true pa pb n o (o + 1)).toNat (n * o * o)) := Lib.hid (by rw [hV, eU, Int.toNat_natCast]; rfl)
          rw [hV]
          clear hV eU m1 m0
          unfold fracV at HF
          go_wp2_with fail
          refine (HF.out _).mono ?_
          rintro e w2 ⟨rfl, hb2⟩
          obtain ⟨d0, d1, z0, z1'⟩ := HR9.out.below hb2 (by omega)
          generalize V / Nat.gcd V U = N at *
          generalize U / Nat.gcd V U = D at *
          obtain ⟨t1, t2, t3⟩ := two_cells (v0 := .int .i64 (N : Int)) (v1 := .int .i64 (D : Int)) d0 d1
          have HB2 := Lib.hid (((B9.out.trans (hb2.mono B9.out.size)).setCell (p := ⟨w.heap.size, 0, none⟩) (Nat.le_refl _) (.int .i64 (N : Int))).setCell (p := ⟨w.heap.size, 1, none⟩) (Nat.le_refl _) (.int .i64 (D : Int)))
          clear hb2 HF
          go_wp2
          refine bodyPost_ret (v := .tuple #[.agg #[.int .i64 (N : Int), .int .i64 (D : Int)], .bool true]) (by simp [results, Try.results25, go_sem, t2, t3]) rfl ⟨by rw [HE.out], HB2.out⟩
set_option maxHeartbeats 4000000 in
set_option maxRecDepth 100000 in
theorem specStar1_yes (A : Option Addr) (c B b : Nat) (xss : List (List Int)) (w : World) (hx : RdII w B A xss) (hB : B ≤ w.heap.size) (hl : xss.length ≤ 1048576) (hm : tot xss ≤ 1048576) (hv : ptsB xss b = true) (hs : (xss.getD 0 []).length = 1) :
    Calls Try.prog 25 #[.slice A xss.length c, .int .i64 b] w (StarRet (allS false (pa xss) (pb false xss) xss.length (2 ^ b) (2 ^ b + 1)).toNat (xss.length * 2 ^ b * 2 ^ b) w) := by
  obtain ⟨bb, off, rfl, hp, hbd⟩ := pts_of hx hv hs
  obtain ⟨q1, q2, q3, q4, _, _, _⟩ := ptsB_true hv
  obtain ⟨W1, hW1⟩ : ∃ W, W = w.alloc (.cells #[.int .i64 0, .int .i64 0] 23) := ⟨_, rfl⟩
  have b1 : Below w.heap.size w W1 := by rw [hW1]; exact (Below.refl _ _).alloc (Nat.le_refl _) _
  have HLi := Lib.hid (l10List_any (some ⟨bb, off, none⟩) c B b xss W1 (hx.below b1 hB) hl hm)
  rw [hv] at HLi
  have z1 : W1.heap.size = w.heap.size + 1 := by rw [hW1]; simp
  have HR : Hid (Res0 W1 w.heap.size) := Lib.hid (by rw [hW1]; exact ⟨World.cell?_alloc_new w _ _ 0, World.cell?_alloc_new w _ _ 1, by simp, by simp⟩)
  have HP1 := Lib.hid (hp.below b1 hB)
  have B1 := Lib.hid b1
  have hb6 : b ≤ 6 := by omega
  have hn1 : 1 ≤ xss.length := by omega
  have hn64 : xss.length ≤ 64 := by omega
  obtain ⟨p1, p2⟩ := pw_bd6 hb6
  have ho : ((2 ^ b : Nat) : Int) = (2 : Int) ^ b := by simp
  have ho2 := Nat.two_pow_pos b
  have ho64 : 2 ^ b ≤ 64 := Nat.pow_le_pow_right (show 0 < 2 by decide) hb6
  have e2 : decide ((1 : Nat) = 2) = false := rfl
  rw [e2] at hp hbd HP1
  clear hx hv hs hl hm hp b1 q1 q2 q3 q4 e2
  generalize pa xss = pa at *
  have hpb0 : ∀ k, pb false xss k = 0 := fun _ => rfl
  generalize pb false xss = pb at *
  generalize xss.length = n at *
  have hmk := run_make_row' (P := Try.prog) 28 2 (.int .i64 0) 8 Try.underlying28 infoI rfl .i64 .i64 n (by omega) (by omega)
  have HMk := Lib.hid hmk
  clear hmk
  go_enter Try.func25, Try.ntmps25
  go_wp2_with fail
  rw [← hW1]
  refine HLi.out.mono ?_
  rintro e w1 ⟨rfl, hd1⟩
  have D1 : Below W1.heap.size W1 w1 := hd1.below
  have z2 := D1.size
  have HP2 := Lib.hid (HP1.out.below D1 (by omega))
  have HR2 := Lib.hid (HR.out.below D1 (by omega))
  have B2 := Lib.hid (B1.out.trans (D1.mono B1.out.size))
  obtain ⟨b0, o0, c0, l0, g0, _, _⟩ := HP2.out.2 0 (by omega)
  have l1 := HP2.out.1
  have l0' : b0 < w1.heap.size := by omega
  have l1' : bb < w1.heap.size := by omega
  rw [Nat.add_zero] at g0
  clear D1 hd1 HP1 HR HLi B1 hW1
  have hmk := HMk.out
  go_wp2_with fail
  clear hmk HMk
  rw [← ho] at *
  clear ho hbd
  generalize hob : 2 ^ b = o at *
  clear hob p1 p2
  obtain ⟨W9, hW9⟩ : ∃ W, W = w1.alloc (.cells (madeCells #[.int .i64 0] n) 2) := ⟨_, rfl⟩
  rw [← hW9]
  have hb : Below w1.heap.size w1 W9 := by rw [hW9]; exact (Below.refl _ _).alloc (Nat.le_refl _) _
  have HS9 : Hid (∀ k, k < n → W9.cell? ⟨w1.heap.size, k, none⟩ = some (.int .i64 ((pb k : Nat) : Int))) := Lib.hid fun k hk => by
    have := World.ownsRow_lit (e := 2) (size := 1) (base := w1.heap.size) w1 (madeCells #[.int .i64 0] n) n (Nat.le_refl _) (by simp [maxLen]; omega) (by simp [size_madeCells])
    rw [toList_madeCells_one, ← hW9] at this
    rw [this.cellAt k (by omega), hpb0 k]
    simp [hk]
  have HP9 := Lib.hid (HP2.out.below hb (by omega))
  have hbz := hb.size
  have lz : w1.heap.size < W9.heap.size := by rw [hW9]; simp
  have B9 := Lib.hid (B2.out.trans (hb.mono (by omega)))
  have HR9 : Hid _ := Lib.hid (Res0.below HR2.out hb (by omega))
  clear hb hbz HP2 HR2 B2 hW9 g0 l0'
  have hnn : (n : Int) ≤ 64 := by omega
  obtain ⟨b0, o0, c0, _, g0, _, _⟩ := HP9.out.2 0 (by omega)
  rw [Nat.add_zero] at g0
  have hb0 := HP9.out.1
  go_loop [10, 11] (fun mv xv => ∃ x : Nat, x ≤ o + 1 ∧ xv = .int .i64 (x : Int) ∧ mv = .int .i64 (allS false pa pb n o x)) (fun _ xv => o + 1 - (intOf xv).toNat)
  case atStart => exact ⟨0, Nat.zero_le _, rfl, rfl⟩
  case round =>
    obtain ⟨x, hx, rfl, rfl⟩ := hrel
    obtain ⟨m0, m1⟩ := allS_bd (two := false) (pa := pa) (pb := pb) (n := n) (o := o) x hx
    by_cases hxt : x < o + 1
    · have HA : Hid (allS false pa pb n o (x + 1) = rowS false pa pb n o x (allS false pa pb n o x) (o + 1)) := Lib.hid rfl
      have HBd := Lib.hid (fun y (hy : y ≤ o + 1) => rowS_bd (two := false) (pa := pa) (pb := pb) (n := n) (o := o) (x := x) (by omega) m0 m1 y hy)
      generalize allS false pa pb n o x = M at *
      clear m0 m1
      go_wp2_with fail
      go_loop [10, 12] (fun mv yv => ∃ y : Nat, y ≤ o + 1 ∧ yv = .int .i64 (y : Int) ∧ mv = .int .i64 (rowS false pa pb n o x M y)) (fun _ yv => o + 1 - (intOf yv).toNat)
      case atStart => exact ⟨0, Nat.zero_le _, rfl, rfl⟩
      case round =>
        obtain ⟨y, hy, rfl, rfl⟩ := hrel
        by_cases hyt : y < o + 1
        · by_cases hyo : y < o
          · have HS : Hid (rowS false pa pb n o x M (y + 1) = rowS false pa pb n o x M y) := Lib.hid (rowS_skip _ _ _ _ _ _ _ _ (by simp; omega))
            generalize rowS false pa pb n o x M y = G at *
            go_wp2
            go_round
            case rel => exact ⟨y + 1, by omega, by go_num, by rw [HS.out]⟩
            case measure => simp [intOf]; omega
          have HS : Hid (rowS false pa pb n o x M (y + 1) = stepD pa pb n o x y (rowS false pa pb n o x M y)) := Lib.hid (rowS_succ _ _ _ _ _ _ _ _ (by simp; omega))
          generalize rowS false pa pb n o x M y = G at *
          go_wp2_with fail
          go_loop [13, 14, 15] (fun ov cv kv => ∃ k : Nat, k ≤ n ∧ kv = .int .i64 (k : Int) ∧ ov = .int .i64 ((cO pa pb x y k : Nat) : Int) ∧ cv = .int .i64 ((cC pa pb x y k : Nat) : Int)) (fun _ _ kv => n - (intOf kv).toNat)
          case atStart => exact ⟨0, Nat.zero_le _, rfl, rfl, rfl⟩
          case round =>
            obtain ⟨k, hk, rfl, rfl, rfl⟩ := hrel
            have l1 := cO_le pa pb x y k
            have l2 := cC_le pa pb x y k
            by_cases hkt : k < n
            · obtain ⟨b3, o3, c3, _, g3, g4, _⟩ := HP9.out.2 k hkt
              have g5 := HS9.out k hkt
              have HO : Hid (cO pa pb x y (k + 1) = cO pa pb x y k + if pa k < x ∧ pb k < y then 1 else 0) := Lib.hid rfl
              have HC : Hid (cC pa pb x y (k + 1) = cC pa pb x y k + if pa k ≤ x ∧ pb k ≤ y then 1 else 0) := Lib.hid rfl
              generalize cO pa pb x y k = Q at *
              generalize cC pa pb x y k = R at *
              generalize pa k = a at *
              generalize pb k = d at *
              clear HA HBd HS
              rcases Nat.lt_trichotomy a x with h1 | h1 | h1 <;> rcases Nat.lt_trichotomy d y with h2 | h2 | h2
              all_goals
                have HH := Lib.hid (And.intro h1 h2)
                first | subst h1 | skip
                first | subst h2 | skip
                go_wp2
                go_round
                case rel => exact ⟨k + 1, hkt, by go_num, by rw [HO.out]; have := HH.out; split <;> first | go_num | (exfalso; omega), by rw [HC.out]; have := HH.out; split <;> first | go_num | (exfalso; omega)⟩
                case measure => simp [intOf]; omega
            · obtain rfl : k = n := by omega
              obtain ⟨P1, P, e1, e2, i1, i2, eP⟩ := prod3 x y k (by omega) (by omega) hn64
              obtain ⟨Q1, Q, e3, e4, i3, i4, eQ⟩ := prod3 (cO pa pb x y k) o o (by omega) ho64 ho64
              obtain ⟨R1, R, e5, e6, i5, i6, eR⟩ := prod3 (cC pa pb x y k) o o (by omega) ho64 ho64
              unfold stepD at HS
              rw [eP, eQ, eR] at HS
              clear eP eQ eR
              generalize cO pa pb x y k = q at *
              generalize cC pa pb x y k = r at *
              go_wp2_with (go_at_call 51; refine (l00Max2_any _ _ _).mono ?_; rintro e w' ⟨rfl, rfl⟩)
              go_round
              case rel => exact ⟨y + 1, by omega, by go_num, by rw [HS.out]; go_num⟩
              case measure => simp [intOf]; omega
        · obtain rfl : y = o + 1 := by omega
          go_wp2
          go_round
          case rel => exact ⟨x + 1, by omega, by go_num, by rw [HA.out]⟩
          case measure => simp [intOf]; omega
    · obtain rfl : x = o + 1 := by omega
      obtain ⟨V, hV⟩ := Int.eq_ofNat_of_zero_le m0
      obtain ⟨U1, U, e1, e2, i1, i2, eU⟩ := prod3 n o o hn64 ho64 ho64
      have hVU : V ≤ U := by rw [hV, eU] at m1; omega
      have hU0 : 0 < U := by rw [← eU]; exact Nat.mul_pos (Nat.mul_pos (by omega) ho2) ho2
      have HF := Lib.hid (fun W => fMakeL_any V U (by omega) hU0 (by omega) W)
      have HE : Hid (Value.agg #[.int .i64 ((V / Nat.gcd V U : Nat) : Int), .int .i64 ((U / Nat.gcd V U : Nat) : Int)] = fracV (allS false pa pb n o (o + 1)).toNat (n * o * o)) := Lib.hid (by rw [hV, eU, Int.toNat_natCast]; rfl)
      rw [hV]
      clear hV eU m1 m0
      unfold fracV at HF
      go_wp2_with fail
      refine (HF.out _).mono ?_
      rintro e w2 ⟨rfl, hb2⟩
      obtain ⟨d0, d1, z0, z1'⟩ := HR9.out.below hb2 (by omega)
      generalize V / Nat.gcd V U = N at *
      generalize U / Nat.gcd V U = D at *
      obtain ⟨t1, t2, t3⟩ := two_cells (v0 := .int .i64 (N : Int)) (v1 := .int .i64 (D : Int)) d0 d1
      have HB2 := Lib.hid (((B9.out.trans (hb2.mono B9.out.size)).setCell (p := ⟨w.heap.size, 0, none⟩) (Nat.le_refl _) (.int .i64 (N : Int))).setCell (p := ⟨w.heap.size, 1, none⟩) (Nat.le_refl _) (.int .i64 (D : Int)))
      clear hb2 HF
      go_wp2
      refine bodyPost_ret (v := .tuple #[.agg #[.int .i64 (N : Int), .int .i64 (D : Int)], .bool true]) (by simp [results, Try.results25, go_sem, t2, t3]) rfl ⟨by rw [HE.out], HB2.out⟩
end Go.Proofs.Ytjkcdnfmmfpbjaa.Star

/- The law on the star distance. -/
import Derived.Test.YtjkcdnfmmfpbjaaStarI
import Derived.Test.YtjkcdnfmmfpbjaaStarJ
import Derived.Test.YtjkcdnfmmfpbjaaNetLaw
namespace Go.Proofs.Ytjkcdnfmmfpbjaa.Star
open Go.RowKit Go.Proofs.Ytjkcdnfmmfpbjaa Go.Proofs.Ytjkcdnfmmfpbjaa.Base Go.Proofs.Ytjkcdnfmmfpbjaa.Mem Go.Proofs.Ytjkcdnfmmfpbjaa.Inv Go.Proofs.Ytjkcdnfmmfpbjaa.Pts Go.Proofs.Ytjkcdnfmmfpbjaa.StarM Go.Proofs.Ytjkcdnfmmfpbjaa.Cpy
set_option linter.unusedVariables false
def starB (xss : List (List Int)) (bits : Int) : Bool := ptsB xss bits && decide ((xss.getD 0 []).length ≤ 2)
def NoRet (w : World) (e : Ending) (w' : World) : Prop := e = .returned (.tuple #[.agg #[.int .i64 0, .int .i64 0], .bool false]) ∧ Below w.heap.size w w'
theorem row0 {w : World} {B : Nat} {A : Option Addr} {xss : List (List Int)} (hx : RdII w B A xss) (h1 : 1 ≤ xss.length) : ∃ bb off A1 c1, A = some ⟨bb, off, none⟩ ∧ bb < B ∧ w.cell? ⟨bb, off, none⟩ = some (.slice A1 (xss.getD 0 []).length c1) := by
  obtain ⟨bb, off, e, hlt, hc⟩ := hx (by omega)
  obtain ⟨A1, c1, g, _⟩ := hc 0 (by omega)
  exact ⟨bb, off, A1, c1, e, hlt, by rwa [Nat.add_zero] at g⟩
theorem specStar_no (A : Option Addr) (c B : Nat) (bits : Int) (xss : List (List Int)) (w : World) (hx : RdII w B A xss) (hB : B ≤ w.heap.size) (hl : xss.length ≤ 1048576) (hm : tot xss ≤ 1048576) (hn : starB xss bits = false) :
    Calls Try.prog 25 #[.slice A xss.length c, .int .i64 bits] w (NoRet w) := by
  have b1 : Below w.heap.size w (w.alloc (.cells #[.int .i64 0, .int .i64 0] 23)) := (Below.refl _ _).alloc (Nat.le_refl _) _
  have HLi := Lib.hid (l10List_any A c B bits xss _ (hx.below b1 hB) hl hm)
  cases hv : ptsB xss bits with
  | false =>
    rw [hv] at HLi
    clear hx hn hv b1
    go_enter Try.func25, Try.ntmps25
    go_wp2_with fail
    refine HLi.out.mono ?_
    rintro e w1 ⟨rfl, n, rfl⟩
    go_wp2
    refine bodyPost_ret (v := .tuple #[.agg #[.int .i64 0, .int .i64 0], .bool false]) (by simp [results, Try.results25, go_sem]) rfl ⟨rfl, ?_⟩
    exact ((below_drewN ((Below.refl _ _).alloc (Nat.le_refl _) _) _).setCell (Nat.le_refl _) _).setCell (Nat.le_refl _) _
  | true =>
    rw [hv] at HLi
    obtain ⟨q1, q2, q3, q4, q5, q6, q7⟩ := ptsB_true hv
    obtain ⟨bb, off, A1, c1, rfl, hbb, g0⟩ := row0 hx q3
    have h3 : 2 < (xss.getD 0 []).length := by
      simp only [starB, hv, Bool.true_and, decide_eq_false_iff_not] at hn
      omega
    have hlt : bb < w.heap.size := by omega
    have q30 : 0 < xss.length := q3
    clear hx hn hv b1 q1 q2 q3 q4 q5 q7
    generalize (xss.getD 0 []).length = s at *
    have h3i : (2 : Int) < (s : Int) := by omega
    go_enter Try.func25, Try.ntmps25
    go_wp2_with fail
    refine HLi.out.mono ?_
    rintro e w1 ⟨rfl, n, rfl⟩
    go_wp2
    refine bodyPost_ret (v := .tuple #[.agg #[.int .i64 0, .int .i64 0], .bool false]) (by simp [results, Try.results25, go_sem]) rfl ⟨rfl, ?_⟩
    exact ((below_drewN ((Below.refl _ _).alloc (Nat.le_refl _) _) _).setCell (Nat.le_refl _) _).setCell (Nat.le_refl _) _
theorem implStar_no (A : Option Addr) (c B : Nat) (bits : Int) (xss : List (List Int)) (w : World) (hx : RdII w B A xss) (hB : B ≤ w.heap.size) (hl : xss.length ≤ 1048576) (hm : tot xss ≤ 1048576) (hn : starB xss bits = false) :
    Calls Try.prog 27 #[.slice A xss.length c, .int .i64 bits] w (NoRet w) := by
  have b1 : Below w.heap.size w (w.alloc (.cells #[.int .i64 0, .int .i64 0] 23)) := (Below.refl _ _).alloc (Nat.le_refl _) _
  have HLi := Lib.hid (implIsPoints_any A c B bits xss _ (hx.below b1 hB) (by simp; omega) hl hm)
  cases hv : ptsB xss bits with
  | false =>
    rw [hv] at HLi
    clear hx hn hv b1
    go_enter Try.func27, Try.ntmps27
    go_wp2_with fail
    refine HLi.out.mono ?_
    rintro e w1 ⟨rfl, hb1⟩
    have d0 := box_cells hb1 0
    have d1 := box_cells hb1 1
    have z0 := (bcell hb1).2 w.heap.size 0 (by simp)
    have z1 := (bcell hb1).2 w.heap.size 1 (by simp)
    obtain ⟨t1, t2, t3⟩ := two_cells (v0 := .int .i64 0) (v1 := .int .i64 0) d0 d1
    have HB2 := Lib.hid (((Base.Below.boxed hb1).setCell (p := ⟨w.heap.size, 0, none⟩) (Nat.le_refl _) (.int .i64 0)).setCell (p := ⟨w.heap.size, 1, none⟩) (Nat.le_refl _) (.int .i64 0))
    clear hb1
    go_wp2
    refine bodyPost_ret (v := .tuple #[.agg #[.int .i64 0, .int .i64 0], .bool false]) (by simp [results, Try.results27, go_sem, t2, t3]) rfl ⟨rfl, HB2.out⟩
  | true =>
    rw [hv] at HLi
    obtain ⟨q1, q2, q3, q4, q5, q6, q7⟩ := ptsB_true hv
    obtain ⟨bb, off, A1, c1, rfl, hbb, g0⟩ := row0 (hx.below b1 hB) q3
    have h3 : 2 < (xss.getD 0 []).length := by
      simp only [starB, hv, Bool.true_and, decide_eq_false_iff_not] at hn
      omega
    have q30 : 0 < xss.length := q3
    clear hx hn hv b1 q1 q2 q3 q4 q5 q7
    generalize (xss.getD 0 []).length = s at *
    have h3i : (2 : Int) < (s : Int) := by omega
    go_enter Try.func27, Try.ntmps27
    go_wp2_with fail
    refine HLi.out.mono ?_
    rintro e w1 ⟨rfl, hb1⟩
    have d0 := box_cells hb1 0
    have d1 := box_cells hb1 1
    have z0 := (bcell hb1).2 w.heap.size 0 (by simp)
    have z1 := (bcell hb1).2 w.heap.size 1 (by simp)
    have g1 := (hb1.cell (p := ⟨bb, off, none⟩) (show bb < _ by simp; omega)).trans g0
    obtain ⟨t1, t2, t3⟩ := two_cells (v0 := .int .i64 0) (v1 := .int .i64 0) d0 d1
    have HB2 := Lib.hid (((Base.Below.boxed hb1).setCell (p := ⟨w.heap.size, 0, none⟩) (Nat.le_refl _) (.int .i64 0)).setCell (p := ⟨w.heap.size, 1, none⟩) (Nat.le_refl _) (.int .i64 0))
    clear hb1 g0
    go_wp2
    refine bodyPost_ret (v := .tuple #[.agg #[.int .i64 0, .int .i64 0], .bool false]) (by simp [results, Try.results27, go_sem, t2, t3]) rfl ⟨rfl, HB2.out⟩
/-- a fraction that is returned, and whether there is one -/
def FrRet (P Q : Int) (ok : Bool) (w : World) (e : Ending) (w' : World) : Prop := e = .returned (.tuple #[.agg #[.int .i64 P, .int .i64 Q], .bool ok]) ∧ Below w.heap.size w w'
theorem frac_eq {o v u : Nat} (ho : 0 < o) : fracV (o * v) (o * u) = fracV v u := by
  obtain ⟨h1, h2⟩ := gcd_scale (v := v) (u := u) ho
  simp only [fracV, h1, h2]
theorem star_both (xss : List (List Int)) (bits : Int) (hl : xss.length ≤ 1048576) (hm : tot xss ≤ 1048576) : ∃ P Q : Int,
    (∀ A c B W, RdII W B A xss → B ≤ W.heap.size → Calls Try.prog 25 #[.slice A xss.length c, .int .i64 bits] W (FrRet P Q (starB xss bits) W)) ∧
    (∀ A c B W, RdII W B A xss → B ≤ W.heap.size → Calls Try.prog 27 #[.slice A xss.length c, .int .i64 bits] W (FrRet P Q (starB xss bits) W)) := by
  cases hn : starB xss bits with
  | false => exact ⟨0, 0, fun A c B W hx hB => specStar_no A c B bits xss W hx hB hl hm hn, fun A c B W hx hB => implStar_no A c B bits xss W hx hB hl hm hn⟩
  | true =>
    simp only [starB, Bool.and_eq_true, decide_eq_true_eq] at hn
    obtain ⟨hv, h2⟩ := hn
    obtain ⟨q1, q2, q3, q4, q5, q6, q7⟩ := ptsB_true hv
    obtain ⟨b, rfl⟩ := Int.eq_ofNat_of_zero_le q1
    have hs : (xss.getD 0 []).length = 1 ∨ (xss.getD 0 []).length = 2 := by omega
    have ho := Nat.two_pow_pos b
    rcases hs with hs | hs
    · refine ⟨_, _, fun A c B W hx hB => specStar1_yes A c B b xss W hx hB hl hm hv hs, fun A c B W hx hB => (implStar1_yes A c B b xss W hx hB hl hm hv hs).mono fun e w' h => ?_⟩
      refine ⟨?_, h.2⟩
      rw [h.1]
      have e1 : (allS false (pa xss) (pb false xss) xss.length (2 ^ b) (2 ^ b + 1)).toNat = 2 ^ b * (allI (pa xss) (pb false xss) xss.length (2 ^ b) (2 ^ b + 1)).toNat := by
        rw [allS_false]
        obtain ⟨V, hV⟩ := Int.eq_ofNat_of_zero_le (allI_bd (pa := pa xss) (pb := pb false xss) (n := xss.length) (o := 2 ^ b) (2 ^ b + 1) (Nat.le_refl _)).1
        rw [hV, Int.toNat_natCast, ← Int.natCast_mul, Int.toNat_natCast]
      have e2 : xss.length * 2 ^ b * 2 ^ b = 2 ^ b * (xss.length * 2 ^ b) := Nat.mul_comm _ _
      have := frac_eq (v := (allI (pa xss) (pb false xss) xss.length (2 ^ b) (2 ^ b + 1)).toNat) (u := xss.length * 2 ^ b) ho
      rw [← e1, ← e2] at this
      rw [← this]
      rfl
    · exact ⟨_, _, fun A c B W hx hB => specStar2_yes A c B b xss W hx hB hl hm hv hs, fun A c B W hx hB => implStar2_yes A c B b xss W hx hB hl hm hv hs⟩
set_option maxHeartbeats 4000000 in
set_option maxRecDepth 100000 in
theorem exactStar_any (A0 : Option Addr) (c0 : Nat) (xss : List (List Int)) (bits : Int) (w : World) (hl0 : xss.length ≤ 9223372036854775807) (hm0 : ∀ xs ∈ xss, xs.length ≤ 9223372036854775807) (hx0 : RdII w w.heap.size A0 xss) :
    Calls Try.prog 6 #[.slice A0 xss.length c0, .int .i64 bits] w fun e w' => e = .returned (.bool true) ∧ Below w.heap.size w w' := by
  have HX0 := Lib.hid hx0
  have HSZ0 := Lib.hid (fun k W hk hk2 (hW : Below w.heap.size w W) => szII_any A0 c0 _ k xss W (hx0.below hW (Nat.le_refl _)) hl0 hm0 hk hk2)
  clear hx0 hm0
  go_enter Try.func6, Try.ntmps6
  go_wp2_with fail
  refine (HSZ0.out 1048576 w (by omega) (by omega) (Below.refl _ _)).mono ?_
  rintro e w' ⟨r0, rfl, hr0, rfl⟩
  rcases hr0 with rfl | ⟨hr0a, hr0b⟩
  · go_wp2
    go_ret
    exact ⟨rfl, Below.refl _ _⟩
  have hb0 : xss.length ≤ 1048576 := by omega
  have ht0 : tot xss ≤ 1048576 := by omega
  clear hr0b
  have CT0 := Lib.hid (fun (W : World) (hW : Below w.heap.size w W) => toII_any A0 c0 w.heap.size xss W (HX0.out.below hW (Nat.le_refl _)) hW.size hb0 ht0)
  obtain ⟨P, Q, hS, hI⟩ := star_both xss bits hb0 ht0
  have HS := Lib.hid hS
  have HI := Lib.hid hI
  clear hS hI
  generalize starB xss bits = ok at *
  have hok : (ok != ok) = false := by simp
  go_wp2_with fail
  refine (CT0.out _ (Below.refl _ _)).mono ?_
  rintro e w1 ⟨g_t0, us_t0, rfl, o_t0, b_w1⟩
  have B_w1 := Lib.hid (b_w1)
  have t0 := Lib.hid o_t0
  clear b_w1 o_t0
  go_wp2_with fail
  refine (HS.out _ _ w1.heap.size w1 t0.out.rd (Nat.le_refl _)).mono ?_
  rintro e w2 ⟨rfl, b_w2⟩
  have B_w2 := Lib.hid (Base.Below.nextA B_w1.out b_w2)
  obtain ⟨V2, hV2⟩ : ∃ V, V = w2.alloc (.cells #[.int .i64 P, .int .i64 Q] 23) := ⟨_, rfl⟩
  have x2 : Below w2.heap.size w2 V2 := by rw [hV2]; exact (Below.refl _ _).alloc (Nat.le_refl _) _
  have B_V2 := Lib.hid (Base.Below.nextA B_w2.out x2)
  have D2 : Hid (V2.cell? ⟨w2.heap.size, 0, none⟩ = some (.int .i64 P) ∧ V2.cell? ⟨w2.heap.size, 1, none⟩ = some (.int .i64 Q) ∧ w2.heap.size < V2.heap.size) := Lib.hid (by rw [hV2]; exact ⟨World.cell?_alloc_new w2 _ _ 0, World.cell?_alloc_new w2 _ _ 1, by simp⟩)
  clear b_w2 x2
  go_wp2_with fail
  rw [← hV2]
  clear hV2
  refine (CT0.out _ B_V2.out).mono ?_
  rintro e w4 ⟨g_x0, us_x0, rfl, o_x0, b_w4⟩
  have B_w4 := Lib.hid (Base.Below.nextA B_V2.out b_w4)
  have D4 := Lib.hid (And.intro ((b_w4.cell (p := ⟨w2.heap.size, 0, none⟩) D2.out.2.2).trans D2.out.1) (And.intro ((b_w4.cell (p := ⟨w2.heap.size, 1, none⟩) D2.out.2.2).trans D2.out.2.1) (Nat.lt_of_lt_of_le D2.out.2.2 b_w4.size)))
  have x0 := Lib.hid o_x0
  clear b_w4 o_x0
  go_wp2_with fail
  refine (HI.out _ _ w4.heap.size w4 x0.out.rd (Nat.le_refl _)).mono ?_
  rintro e w6 ⟨rfl, b_w6⟩
  have B_w6 := Lib.hid (Base.Below.nextA B_w4.out b_w6)
  have x0_w6 := Lib.hid (x0.out.below b_w6)
  have e0 := (b_w6.cell (p := ⟨w2.heap.size, 0, none⟩) D4.out.2.2).trans D4.out.1
  have e1 := (b_w6.cell (p := ⟨w2.heap.size, 1, none⟩) D4.out.2.2).trans D4.out.2.1
  have hlt : w2.heap.size < w6.heap.size := Nat.lt_of_lt_of_le D4.out.2.2 b_w6.size
  have X6 := Lib.hid (show Below w6.heap.size w6 (w6.alloc (.cells #[.int .i64 P, .int .i64 Q] 23)) from (Below.refl _ _).alloc (Nat.le_refl _) _)
  have HE := Lib.hid (fun W => MemF.eqFraction_yes P Q W)
  clear b_w6
  go_wp2_with fail
  refine (HE.out _).mono ?_
  rintro e w7 ⟨rfl, b_w7⟩
  have y7 := Base.Below.nextA X6.out b_w7
  have B_w7 := Lib.hid (Base.Below.nextA B_w6.out y7)
  have x0_w7 := Lib.hid (x0_w6.out.below y7)
  clear b_w7 y7 e0 e1 hlt
  go_wp2_with fail
  refine (CT0.out _ B_w7.out).mono ?_
  rintro e w8 ⟨g_u0, us_u0, rfl, o_u0, b_w8⟩
  have B_w8 := Lib.hid (Base.Below.nextA B_w7.out b_w8)
  have x0_w8 := Lib.hid (x0_w7.out.below b_w8)
  have u0 := Lib.hid o_u0
  clear b_w8 o_u0
  go_wp2_with fail
  refine (eqII_yes _ _ _ _ _ _ xss w8 x0_w8.out.rd u0.out.rd (by omega) (by omega)).mono ?_
  rintro e w9 ⟨rfl, n9, e9⟩
  have BE := Lib.hid (show Below w.heap.size w w9 by rw [e9]; exact below_drewN B_w8.out _)
  clear e9
  go_wp2
  go_ret
  exact ⟨rfl, BE.out⟩
theorem exactStar_v {w : World} {v : Value} (h : Open.IsRows w v) (bits : Int) : Calls Try.prog 6 #[v, .int .i64 bits] w fun e w' => e = .returned (.bool true) ∧ Below w.heap.size w w' := by
  obtain ⟨A, c, xss, rfl, hl, hl', _, hx⟩ := h.ex
  exact exactStar_any A c xss bits w hl hl' hx
end Go.Proofs.Ytjkcdnfmmfpbjaa.Star

/- The quality of a net and the evenness of its points: the law walked. -/
import Derived.Test.YtjkcdnfmmfpbjaaQualN
import Derived.Test.YtjkcdnfmmfpbjaaNetPLaw
import Derived.Test.YtjkcdnfmmfpbjaaScrLaw
import Derived.Deep.RegionHeld3
import Derived.Deep.CutRange
namespace Go.Proofs.Ytjkcdnfmmfpbjaa.QualW
open Go.RowKit Go.Proofs.Ytjkcdnfmmfpbjaa Go.Proofs.Ytjkcdnfmmfpbjaa.Rank Go.Proofs.Ytjkcdnfmmfpbjaa.Base Go.Proofs.Ytjkcdnfmmfpbjaa.Mem Go.Proofs.Ytjkcdnfmmfpbjaa.AllIn Go.Proofs.Ytjkcdnfmmfpbjaa.Pts Go.Proofs.Ytjkcdnfmmfpbjaa.Cuts Go.Proofs.Ytjkcdnfmmfpbjaa.NetV Go.Proofs.Ytjkcdnfmmfpbjaa.NetP Go.Proofs.Ytjkcdnfmmfpbjaa.RevNet Go.Proofs.Ytjkcdnfmmfpbjaa.DrawN Go.Proofs.Ytjkcdnfmmfpbjaa.Scr Go.Proofs.Ytjkcdnfmmfpbjaa.ShL Go.Proofs.Ytjkcdnfmmfpbjaa.Ways Go.Proofs.Ytjkcdnfmmfpbjaa.QualL Go.Proofs.Ytjkcdnfmmfpbjaa.QualI Go.Proofs.Ytjkcdnfmmfpbjaa.QualN
set_option linter.unusedVariables false
theorem nats_ofN (l : List Nat) : nats (ofN l) = l := by
  unfold nats ofN
  rw [List.map_map]
  exact (List.map_congr_left (fun x _ => Int.toNat_natCast x)).trans (List.map_id l)
/-- the points of a net are even for cuts exactly if the rows are independent -/
theorem even_net {b : Nat} {xss : List (List Int)} (hb : b ≤ 5) (h1 : 1 ≤ xss.length) (h3 : xss.length ≤ 3) (hall : xss.all (rowB b b) = true) (cs : List Nat) (hl : cs.length = xss.length) (hc : ∀ j, cs.getD j 0 ≤ b) (hs : cs.sum ≤ 6) :
    Box.evenB (netL xss (2 ^ b)) b (ofN cs) = true ↔ RankM.Ind (tks (natss xss) cs) := by
  have hPl : (netL xss (2 ^ b)).length = 2 ^ b := netL_len _ _
  have hIn := ShM.net_pts hall
  have hpw : 2 ^ b ≤ 2 ^ 5 := Nat.pow_le_pow_right (by decide) hb
  have hpw0 := Nat.two_pow_pos b
  have hPts := ShM.ptsB_of (b := b) (n := xss.length) (P := netL xss (2 ^ b)) (by omega) (by omega) (by omega) h1 (by omega) hIn
  have hbd : ∀ j, j < (ofN cs).length → 0 ≤ (ofN cs).getD j 0 ∧ (ofN cs).getD j 0 ≤ b := fun j hj => by
    rw [ofN_len] at hj
    rw [ofN_get _ _ hj]
    have := hc j
    omega
  have hsum := QualL.sumTo_nats (fun j hj => (hbd j hj).1) (ofN cs).length (Nat.le_refl _)
  rw [nats_ofN, List.take_of_length_le (by rw [ofN_len]; exact Nat.le_refl _)] at hsum
  have hcut : Cuts.cutsB (netL xss (2 ^ b)) b (ofN cs) = true := by
    unfold Cuts.cutsB
    rw [hPts, (hIn 0 (by omega)).1]
    simp only [Bool.true_and, Bool.and_eq_true, beq_iff_eq, decide_eq_true_eq]
    exact ⟨by rw [ofN_len]; exact hl, allInB_of fun j hj => inR_yes (hbd j hj), by omega⟩
  unfold Box.evenB Box.boxR
  rw [hcut, Bool.true_and, if_pos rfl, Int.toNat_natCast, hPl]
  have := QualL.even_ind (b := b) (xss := xss) (cs := ofN cs) (by omega) hall (by rw [ofN_len]; exact hl) hbd
  rw [nats_ofN] at this
  exact this
/-- a cut that the quality does not bear -/
def Bad (L b t : Nat) (Ms : List (List Nat)) (x y z : Nat) : Prop := (L < 3 → z = 0) ∧ (L < 2 → y = 0) ∧ x + y + z = b - t + 1 ∧ ¬ RankM.Ind (tks Ms ([x, y, z].take L))
theorem bad_ex {b t : Nat} {Ms : List (List Nat)} (h1 : 1 ≤ Ms.length) (h3 : Ms.length ≤ 3) (hq : IsQ b Ms t) (ht : 0 < t) : ∃ x y z, x ≤ b ∧ y ≤ b ∧ z ≤ b ∧ Bad Ms.length b t Ms x y z := by
  have hn := hq.2.2 (t - 1) (by omega)
  have hb := hq.1
  rw [show b - (t - 1) = b - t + 1 by omega] at hn
  refine Classical.byContradiction fun hx => hn fun cs hl hs => ?_
  rw [List.nil_append]
  refine Classical.byContradiction fun hi => hx ?_
  have h4 : Ms.length = 1 ∨ Ms.length = 2 ∨ Ms.length = 3 := by omega
  rcases h4 with h | h | h
  · obtain ⟨x, rfl⟩ := List.length_eq_one_iff.1 (hl.trans h)
    simp at hs
    refine ⟨x, 0, 0, by omega, by omega, by omega, fun _ => rfl, fun _ => rfl, by omega, ?_⟩
    rw [h]; exact hi
  · obtain ⟨x, y, rfl⟩ : ∃ x y, cs = [x, y] := by
      have hl2 := hl.trans h
      rcases cs with _ | ⟨x, _ | ⟨y, _ | ⟨z, cs⟩⟩⟩
      all_goals first | exact ⟨_, _, rfl⟩ | (simp at hl2)
    simp at hs
    refine ⟨x, y, 0, by omega, by omega, by omega, fun _ => rfl, fun h' => by omega, by omega, ?_⟩
    rw [h]; exact hi
  · obtain ⟨x, y, z, rfl⟩ : ∃ x y z, cs = [x, y, z] := by
      have hl2 := hl.trans h
      rcases cs with _ | ⟨x, _ | ⟨y, _ | ⟨z, _ | ⟨v, cs⟩⟩⟩⟩
      all_goals first | exact ⟨_, _, _, rfl⟩ | (simp at hl2)
    simp at hs
    refine ⟨x, y, z, by omega, by omega, by omega, fun h' => by omega, fun h' => by omega, by omega, ?_⟩
    rw [h]; exact hi
theorem cut_facts {L x y z b : Nat} (h1 : 1 ≤ L) (h3 : L ≤ 3) (hz : L < 3 → z = 0) (hy : L < 2 → y = 0) (hx : x ≤ b) (hyb : y ≤ b) (hzb : z ≤ b) : ([x, y, z].take L).length = L ∧ ([x, y, z].take L).sum = x + y + z ∧ ∀ j, ([x, y, z].take L).getD j 0 ≤ b := by
  have h4 : L = 1 ∨ L = 2 ∨ L = 3 := by omega
  rcases h4 with rfl | rfl | rfl
  · have := hz (by decide); have := hy (by decide); subst_vars
    refine ⟨rfl, rfl, fun j => ?_⟩
    rcases j with _ | j <;> simp [hx]
  · have := hz (by decide); subst_vars
    refine ⟨rfl, by simp, fun j => ?_⟩
    rcases j with _ | _ | j <;> simp [hx, hyb]
  · refine ⟨rfl, by simp [Nat.add_assoc], fun j => ?_⟩
    rcases j with _ | _ | _ | j <;> simp [hx, hyb, hzb]
theorem cut_rd (w : World) (L x y z : Nat) (h3 : L ≤ 3) : RdI (w.alloc (.cells #[.int .i64 (x : Int), .int .i64 (y : Int), .int .i64 (z : Int)] 2)) (w.alloc (.cells #[.int .i64 (x : Int), .int .i64 (y : Int), .int .i64 (z : Int)] 2)).heap.size (some ⟨w.heap.size, 0, none⟩) (ofN ([x, y, z].take L)) := fun h0 => by
  refine ⟨w.heap.size, 0, rfl, by simp, fun i hi => ?_⟩
  rw [ofN_len, List.length_take] at hi
  rw [ofN_get _ _ (by rw [List.length_take]; exact hi), show ([x, y, z].take L).getD i 0 = [x, y, z].getD i 0 by simp [List.getD, show i < L by omega]]
  have h4 : i = 0 ∨ i = 1 ∨ i = 2 := by simp at hi; omega
  rcases h4 with rfl | rfl | rfl <;> simp
/-- what a world in which the mixed net lies has of the first one and of the points -/
def HPre (W1 : World) (A3 : Option Addr) (P : List (List Int)) (W6 : World) : Prop := Below W1.heap.size W1 W6 ∧ RdII W6 W6.heap.size A3 P
/-- the mixed net lies in a block of its own -/
def CutP (b t L : Nat) (w1 W1 : World) (A3 : Option Addr) (P : List (List Int)) (s11 s12 : Value) (W6 : World) : Prop :=
  ∃ (p c5 : Nat) (A5 : Option Addr) (xss2 : List (List Int)), s11 = .pointer (some ⟨p, 0, none⟩) ∧ s12 = .bool true ∧ HPre W1 A3 P W6 ∧ w1.heap.size < p ∧ p < W6.heap.size ∧ W6.cell? ⟨p, 0, none⟩ = some (.int .i64 (b : Int)) ∧ W6.cell? ⟨p, 1, none⟩ = some (.slice A5 L c5) ∧
    RdC W6 W6.heap.size A5 xss2 ∧ netB (b : Int) xss2 = true ∧ IsQ b (natss xss2) t ∧ xss2.length = L ∧ tot xss2 ≤ 24
/-- lists in new blocks stay when a block below them is written -/
theorem rdc_set2 {w : World} {B n c g : Nat} {A : Option Addr} {xss : List (List Int)} {us : List Value} (h : OwnII w B (.slice A n c) xss us) (hg : g < B) (u v : Value) :
    RdC ((w.setCell ⟨g, 0, none⟩ u).setCell ⟨g, 1, none⟩ v) w.heap.size A xss := by
  have h1 : OwnII ((w.setCell ⟨g, 0, none⟩ u).setCell ⟨g, 1, none⟩ v) B (.slice A n c) xss us := (h.setLow (a := ⟨g, 0, none⟩) hg u).setLow (a := ⟨g, 1, none⟩) hg v
  have h2 := h1.rdC
  simpa using h2
set_option maxHeartbeats 4000000 in
set_option maxRecDepth 100000 in
theorem quality_any (A0 A1 : Option Addr) (c0 c1 : Nat) (zs ys : List Int) (w : World) (hl0 : zs.length ≤ 9223372036854775807) (hl1 : ys.length ≤ 9223372036854775807) (hz0' : ∀ z ∈ zs, 0 ≤ z ∧ z ≤ 255) (hz1' : ∀ z ∈ ys, 0 ≤ z ∧ z ≤ 255) (hx0 : RdB w w.heap.size A0 zs) (hx1 : RdB w w.heap.size A1 ys) :
    Calls Try.prog 9 #[.slice A0 zs.length c0, .slice A1 ys.length c1] w fun e w' => e = .returned (.bool true) ∧ Below w.heap.size w w' := by
  by_cases hlong : 48 < zs.length ∨ 48 < ys.length
  · clear hx0 hx1 hz0' hz1'
    go_enter Try.func9, Try.ntmps9
    go_wp2_with (go_at_call 21; refine (R8.r8Long_yes _ _ _ _ _ _ _ hlong hl0 hl1).mono ?_; rintro e w' ⟨rfl, rfl⟩)
    go_ret
    exact ⟨rfl, Below.refl _ _⟩
  have hs0 : zs.length ≤ 48 := by omega
  have hs1 : ys.length ≤ 48 := by omega
  have HNet := Lib.hid (r8Net_any A0 c0 zs w hx0 hs0 hz0')
  have HX1 := Lib.hid hx1
  have HZ1 := Lib.hid hz1'
  clear hx0 hx1 hz0' hz1' hlong
  go_enter Try.func9, Try.ntmps9
  go_wp2_with fail
  refine (R8.r8Long_no _ _ _ _ _ _ _ hs0 hs1).mono ?_
  rintro e w' ⟨rfl, rfl⟩
  go_wp2_with fail
  refine HNet.out.mono ?_
  rintro e w1 ⟨b, A, c, xss, us, rfl, hb5, hl1', hl3, hall, hbit, htot, o1, b1⟩
  have HBit := Lib.hid hbit
  have HAll := Lib.hid hall
  have HB1 := Lib.hid b1
  obtain ⟨W1, hW1⟩ : ∃ W1, W1 = w1.alloc (.cells #[.int .i64 b, .slice A xss.length c] 49) := ⟨_, rfl⟩
  have x1 : Below w1.heap.size w1 W1 := by rw [hW1]; exact (Below.refl _ _).alloc (Nat.le_refl _) _
  have hzW : W1.heap.size = w1.heap.size + 1 := by rw [hW1]; simp
  have e0 : W1.cell? ⟨w1.heap.size, 0, none⟩ = some (.int .i64 (b : Int)) := by rw [hW1]; simp
  have e1 : W1.cell? ⟨w1.heap.size, 1, none⟩ = some (.slice A xss.length c) := by rw [hW1]; simp
  have hzz : w1.heap.size < W1.heap.size := by omega
  have HRd := Lib.hid (OwnII.rdC (o1.below x1))
  have HW1 := Lib.hid hW1
  have HX := Lib.hid (HB1.out.trans (x1.mono (by have := b1.size; omega)))
  have HQ := Lib.hid (fun (W : World) (hW : Below W1.heap.size W1 W) => implQ_any A c W1.heap.size b xss W (HRd.out.below hW (Nat.le_refl _)) hW.size (by omega) htot)
  rw [hbit] at HQ
  have HPt := Lib.hid (fun (W : World) (hW : Below W1.heap.size W1 W) => implNetPts_any A c W1.heap.size b xss W ((HRd.out.below hW (Nat.le_refl _)).rd) hW.size (by omega) htot)
  rw [hbit] at HPt
  have HPtL := Lib.hid (show nptsL b xss = netL xss (2 ^ b) by rw [nptsL, if_pos hbit]; simp)
  rw [HPtL.out] at HPt
  have HSc := Lib.hid (fun (W : World) (A3 : Option Addr) (c3 : Nat) (side : Int) (lower : List Int) (hW : Below W1.heap.size W1 W) (hr : RdI W W.heap.size A3 lower) (hlb : lower.length ≤ 1048576) => implSc_any A A3 c c3 W.heap.size b side xss lower W (((HRd.out.below hW (Nat.le_refl _)).rd).more hW.size) hr (Nat.le_refl _) (by omega) htot hlb)
  have HSB : Hid (∀ (side : Int) (lower : List Int), lower.length = b → lowB lower = true → inR side 0 ((xss.length : Int) - 1) = true → scB b xss side lower = true) := Lib.hid fun side lower h1 h2 h3 => by
    simp only [scB, Bool.and_eq_true, decide_eq_true_eq]
    exact ⟨hbit, h3, by omega, h2⟩
  clear hW1 x1 o1 b1 hall hbit hzW HNet
  go_wp2_with fail
  rw [← HW1.out]
  refine (HQ.out W1 (Below.refl _ _)).mono ?_
  rintro e w2 ⟨hq, _⟩
  obtain ⟨t, rfl, hIsQ, b2⟩ := hq (by trivial)
  have HIQ := Lib.hid hIsQ
  have HB2 := Lib.hid b2
  have f0 := (b2.cell (p := ⟨w1.heap.size, 0, none⟩) hzz).trans e0
  have f1 := (b2.cell (p := ⟨w1.heap.size, 1, none⟩) hzz).trans e1
  have htb := hIsQ.1
  simp only [Int.toNat_natCast] at htb HIQ
  clear hq hIsQ b2
  go_wp2_with fail
  refine (HPt.out w2 HB2.out).mono ?_
  rintro e w3 ⟨A3, c3, us3, rfl, o3, b3⟩
  have HB3 := Lib.hid (HB2.out.trans (b3.mono HB2.out.size))
  have HO3 := Lib.hid o3
  have g0 := (HB3.out.cell (p := ⟨w1.heap.size, 0, none⟩) hzz).trans e0
  have g1 := (HB3.out.cell (p := ⟨w1.heap.size, 1, none⟩) hzz).trans e1
  clear o3 b3 f0 f1
  have hHB3 := HB3.out.size
  have HAt := Lib.hid (R8.r8At_any A1 c1 w.heap.size ys 0 (xss.length : Int) w3 HZ1.out hl1 (HX1.out.below (HX.out.trans (HB3.out.mono HX.out.size)) (Nat.le_refl _)) (by decide))
  go_wp2_with fail
  refine HAt.out.mono ?_
  rintro e w3' ⟨side, hs1', hs2', rfl, rfl⟩
  have HSide : Hid (inR side 0 ((xss.length : Int) - 1) = true) := Lib.hid (inR_yes (by omega))
  have HLw := Lib.hid (fun (W : World) (hW : Below w3.heap.size w3 W) => r8Lower_any A1 c1 w.heap.size b ys W (HX1.out.below ((HX.out.trans (HB3.out.mono HX.out.size)).trans (hW.mono (by have := HX.out.size; omega))) (Nat.le_refl _)) (by have := HX.out.size; have := hW.size; omega) hl1 HZ1.out hb5)
  have HSc2 : Hid (∀ (W : World) (A4 : Option Addr) (c4 : Nat) (lower : List Int), Below w3.heap.size w3 W → lower.length = b → lowB lower = true → RdI W W.heap.size A4 lower → Calls Try.prog 37 #[.agg #[.int .i64 (b : Int), .slice A xss.length c], .int .i64 side, .slice A4 b c4] W (fun e w' => ∃ A5 c5 us5, e = .returned (.tuple #[.agg #[.int .i64 (b : Int), .slice A5 xss.length c5], .bool true]) ∧ OwnII w' W.heap.size (.slice A5 xss.length c5) (scL xss side.toNat lower) us5 ∧ Below W.heap.size W w')) := Lib.hid fun W A4 c4 lower hW h1 h2 h3 => by
    have h := HSc.out W A4 c4 side lower (HB3.out.trans (hW.mono HB3.out.size)) h3 (by omega)
    rw [h1] at h
    refine h.mono ?_
    rintro e w' ⟨hy, _⟩
    obtain ⟨A5, c5, us5, h4, h5, h6⟩ := hy (HSB.out side lower h1 h2 HSide.out)
    rw [scL_len] at h4 h5
    exact ⟨A5, c5, us5, h4, h5, h6⟩
  have L0 : w1.heap.size < w3.heap.size := by omega
  have HBR : Hid (∀ W6, Below w3.heap.size w3 W6 → HPre W1 A3 (netL xss (2 ^ b)) W6) := Lib.hid fun W6 h => ⟨HB3.out.trans (h.mono HB3.out.size), (HO3.out.rd.below h (Nat.le_refl _)).more h.size⟩
  clear HSc HAt hs1' hs2'
  go_wp2
  go_cut [11, 12] from 41 to 50 (fun s11 s12 wx => CutP b t xss.length w1 W1 A3 (netL xss (2 ^ b)) s11 s12 wx)
  case first =>
    go_region_held3 (fun w' => w'.cell? ⟨w1.heap.size, 0, none⟩ = some (.int .i64 (b : Int)) ∧ w'.cell? ⟨w1.heap.size, 1, none⟩ = some (.slice A xss.length c))
      (first | go_keep | exact ⟨k0, k1⟩ | exact ⟨(by rw [World.cell?_setCell_far _ _ _ _ hne3.symm, World.cell?_setCell_far _ _ _ _ hne3.symm]; exact k0), (by rw [World.cell?_setCell_far _ _ _ _ hne3.symm, World.cell?_setCell_far _ _ _ _ hne3.symm]; exact k1)⟩ | exact ⟨(by rw [World.cell?_setCell_far _ _ _ _ hne4.symm, World.cell?_setCell_far _ _ _ _ hne4.symm]; exact k0), (by rw [World.cell?_setCell_far _ _ _ _ hne4.symm, World.cell?_setCell_far _ _ _ _ hne4.symm]; exact k1)⟩)
      (first
        | (go_at_call 38; refine (HLw.out w3.drew ((Below.refl _ _).drew)).mono ?_; rintro e w4 ⟨A4, c4, lower, rfl, h1, h2, r4, b4⟩; have HB4 : Hid (Below w3.heap.size w3 w4) := Lib.hid (((Below.refl w3.heap.size w3).drew).trans b4); have k0 := (HB4.out.cell (p := ⟨w1.heap.size, 0, none⟩) L0).trans g0; have k1 := (HB4.out.cell (p := ⟨w1.heap.size, 1, none⟩) L0).trans g1; have HR4 := Lib.hid r4; have HLL := Lib.hid (And.intro h1 h2); have hne4 : w1.heap.size ≠ w4.heap.size := (by have := HB4.out.size; omega); clear r4 b4 h1 h2)
        | (go_at_call 38; refine (HLw.out ((w3.alloc (.cells #[.int .i64 0, .slice none 0 0] 49)).drew) (((Below.refl _ _).alloc (Nat.le_refl _) _).drew)).mono ?_; rintro e w4 ⟨A4, c4, lower, rfl, h1, h2, r4, b4⟩; have HB4 : Hid (Below w3.heap.size w3 w4) := Lib.hid ((((Below.refl w3.heap.size w3).alloc (Nat.le_refl _) _).drew).trans (b4.mono (by simp))); have k0 := (HB4.out.cell (p := ⟨w1.heap.size, 0, none⟩) L0).trans g0; have k1 := (HB4.out.cell (p := ⟨w1.heap.size, 1, none⟩) L0).trans g1; have HR4 := Lib.hid r4; have HLL := Lib.hid (And.intro h1 h2); have hne4 : w1.heap.size ≠ w4.heap.size := (by have := HB4.out.size; omega); have q0 := (b4.cell (p := ⟨w3.heap.size, 0, none⟩) (by simp)).trans (show _ = some (.int .i64 0) by simp); have q1 := (b4.cell (p := ⟨w3.heap.size, 1, none⟩) (by simp)).trans (show _ = some (.slice none 0 0) by simp); have f0 := (b4.frozen (p := ⟨w3.heap.size, 0, none⟩) (by simp)).trans (show _ = false by simp); have f1 := (b4.frozen (p := ⟨w3.heap.size, 1, none⟩) (by simp)).trans (show _ = false by simp); have hlt34 : w3.heap.size < w4.heap.size := (by have := b4.size; simp at this; omega); have hne3 : w1.heap.size ≠ w3.heap.size := (by omega); clear r4 b4 h1 h2)
        | (go_at_call 37; refine (HSc2.out w4 A4 c4 lower HB4.out HLL.out.1 HLL.out.2 HR4.out).mono ?_; rintro e w5 ⟨A5, c5, us5, rfl, o5, b5⟩; have HB5 : Hid (Below w3.heap.size w3 w5) := Lib.hid (HB4.out.trans (b5.mono HB4.out.size)); have k0 := (HB5.out.cell (p := ⟨w1.heap.size, 0, none⟩) L0).trans g0; have k1 := (HB5.out.cell (p := ⟨w1.heap.size, 1, none⟩) L0).trans g1; have HO5 := Lib.hid o5; have HB5b := Lib.hid b5; have hne5 : w1.heap.size ≠ w5.heap.size := (by have := HB5.out.size; omega); (try (have q0 := (b5.cell (p := ⟨w3.heap.size, 0, none⟩) hlt34).trans q0; have q1 := (b5.cell (p := ⟨w3.heap.size, 1, none⟩) hlt34).trans q1; have f0 := (b5.frozen (p := ⟨w3.heap.size, 0, none⟩) hlt34).trans f0; have f1 := (b5.frozen (p := ⟨w3.heap.size, 1, none⟩) hlt34).trans f1)); clear o5 b5)
        | (go_at_call 37; refine (HSc2.out (w4.alloc (.cells #[.int .i64 0, .slice none 0 0] 49)) A4 c4 lower (HB4.out.alloc HB4.out.size _) HLL.out.1 HLL.out.2 ((HR4.out.below ((Below.refl _ _).alloc (Nat.le_refl _) _) (Nat.le_refl _)).more (by simp))).mono ?_; rintro e w5 ⟨A5, c5, us5, rfl, o5, b5⟩; have HB5 : Hid (Below w3.heap.size w3 w5) := Lib.hid ((HB4.out.alloc HB4.out.size _).trans (b5.mono (by have := HB4.out.size; simp; omega))); have k0 := (HB5.out.cell (p := ⟨w1.heap.size, 0, none⟩) L0).trans g0; have k1 := (HB5.out.cell (p := ⟨w1.heap.size, 1, none⟩) L0).trans g1; have HO5 := Lib.hid o5; have HB5b := Lib.hid b5; have q0 := (b5.cell (p := ⟨w4.heap.size, 0, none⟩) (by simp)).trans (show _ = some (.int .i64 0) by simp); have q1 := (b5.cell (p := ⟨w4.heap.size, 1, none⟩) (by simp)).trans (show _ = some (.slice none 0 0) by simp); have f0 := (b5.frozen (p := ⟨w4.heap.size, 0, none⟩) (by simp)).trans (show _ = false by simp); have f1 := (b5.frozen (p := ⟨w4.heap.size, 1, none⟩) (by simp)).trans (show _ = false by simp); clear o5 b5))
    all_goals
      have HS : scB (b : Int) xss side lower = true := HSB.out side lower HLL.out.1 HLL.out.2 HSide.out
      have HQ2 : Hid (netB (b : Int) (scL xss side.toNat lower) = true ∧ IsQ b (natss (scL xss side.toNat lower)) t ∧ (scL xss side.toNat lower).length = xss.length ∧ tot (scL xss side.toNat lower) ≤ 24) := Lib.hid ⟨sc_net HS, QualS.sc_quality rfl HS HIQ.out, scL_len _ _ _, (scL_small HS).2⟩
      clear HS HSB HSide HLw HSc2
      generalize scL xss side.toNat lower = xss2 at *
      first
        | (have HP : Hid (HPre W1 A3 (netL xss (2 ^ b)) ((w5.setCell ⟨w4.heap.size, 0, none⟩ (.int .i64 (b : Int))).setCell ⟨w4.heap.size, 1, none⟩ (.slice A5 xss.length c5)) ∧ w1.heap.size < w4.heap.size ∧ w4.heap.size < ((w5.setCell ⟨w4.heap.size, 0, none⟩ (.int .i64 (b : Int))).setCell ⟨w4.heap.size, 1, none⟩ (.slice A5 xss.length c5)).heap.size ∧ ((w5.setCell ⟨w4.heap.size, 0, none⟩ (.int .i64 (b : Int))).setCell ⟨w4.heap.size, 1, none⟩ (.slice A5 xss.length c5)).cell? ⟨w4.heap.size, 0, none⟩ = some (.int .i64 (b : Int)) ∧ ((w5.setCell ⟨w4.heap.size, 0, none⟩ (.int .i64 (b : Int))).setCell ⟨w4.heap.size, 1, none⟩ (.slice A5 xss.length c5)).cell? ⟨w4.heap.size, 1, none⟩ = some (.slice A5 xss.length c5) ∧ RdC ((w5.setCell ⟨w4.heap.size, 0, none⟩ (.int .i64 (b : Int))).setCell ⟨w4.heap.size, 1, none⟩ (.slice A5 xss.length c5)) ((w5.setCell ⟨w4.heap.size, 0, none⟩ (.int .i64 (b : Int))).setCell ⟨w4.heap.size, 1, none⟩ (.slice A5 xss.length c5)).heap.size A5 xss2) := Lib.hid (by
            have z4 := HB4.out.size
            have z5 := HB5b.out.size
            simp only [World.size_alloc] at z5
            refine ⟨HBR.out _ ((HB5.out.setCell z4 _).setCell z4 _), (by omega), (by simp only [World.size_setCell]; omega), ?_, ?_, ?_⟩
            · rw [World.cell?_setCell_other _ _ _ _ (by simp)]; exact World.cell?_setCell_same _ _ _ q0
            · exact World.cell?_setCell_same _ _ _ (by rw [World.cell?_setCell_other _ _ _ _ (by simp)]; exact q1)
            · exact (rdc_set2 HO5.out (by simp) _ _).more (by simp))
           have HC : Hid (CutP b t xss.length w1 W1 A3 (netL xss (2 ^ b)) _ _ _) := Lib.hid ⟨_, c5, A5, xss2, rfl, rfl, HP.out.1, HP.out.2.1, HP.out.2.2.1, HP.out.2.2.2.1, HP.out.2.2.2.2.1, HP.out.2.2.2.2.2, HQ2.out⟩
           go_wp2_with fail
           go_meet
           exact HC.out)
        | (have HP : Hid (HPre W1 A3 (netL xss (2 ^ b)) ((w5.setCell ⟨w3.heap.size, 0, none⟩ (.int .i64 (b : Int))).setCell ⟨w3.heap.size, 1, none⟩ (.slice A5 xss.length c5)) ∧ w1.heap.size < w3.heap.size ∧ w3.heap.size < ((w5.setCell ⟨w3.heap.size, 0, none⟩ (.int .i64 (b : Int))).setCell ⟨w3.heap.size, 1, none⟩ (.slice A5 xss.length c5)).heap.size ∧ ((w5.setCell ⟨w3.heap.size, 0, none⟩ (.int .i64 (b : Int))).setCell ⟨w3.heap.size, 1, none⟩ (.slice A5 xss.length c5)).cell? ⟨w3.heap.size, 0, none⟩ = some (.int .i64 (b : Int)) ∧ ((w5.setCell ⟨w3.heap.size, 0, none⟩ (.int .i64 (b : Int))).setCell ⟨w3.heap.size, 1, none⟩ (.slice A5 xss.length c5)).cell? ⟨w3.heap.size, 1, none⟩ = some (.slice A5 xss.length c5) ∧ RdC ((w5.setCell ⟨w3.heap.size, 0, none⟩ (.int .i64 (b : Int))).setCell ⟨w3.heap.size, 1, none⟩ (.slice A5 xss.length c5)) ((w5.setCell ⟨w3.heap.size, 0, none⟩ (.int .i64 (b : Int))).setCell ⟨w3.heap.size, 1, none⟩ (.slice A5 xss.length c5)).heap.size A5 xss2) := Lib.hid (by
            have z5 := HB5b.out.size
            refine ⟨HBR.out _ ((HB5.out.setCell (Nat.le_refl _) _).setCell (Nat.le_refl _) _), L0, (by simp only [World.size_setCell]; omega), ?_, ?_, ?_⟩
            · rw [World.cell?_setCell_other _ _ _ _ (by simp)]; exact World.cell?_setCell_same _ _ _ q0
            · exact World.cell?_setCell_same _ _ _ (by rw [World.cell?_setCell_other _ _ _ _ (by simp)]; exact q1)
            · exact (rdc_set2 HO5.out hlt34 _ _).more (by simp))
           have HC : Hid (CutP b t xss.length w1 W1 A3 (netL xss (2 ^ b)) _ _ _) := Lib.hid ⟨_, c5, A5, xss2, rfl, rfl, HP.out.1, HP.out.2.1, HP.out.2.2.1, HP.out.2.2.2.1, HP.out.2.2.2.2.1, HP.out.2.2.2.2.2, HQ2.out⟩
           go_wp2_with fail
           go_meet
           exact HC.out)
        | (have HP : Hid (HPre W1 A3 (netL xss (2 ^ b)) (w5.alloc (.cells #[.int .i64 (b : Int), .slice A5 xss.length c5] 49)) ∧ w1.heap.size < w5.heap.size ∧ w5.heap.size < (w5.alloc (.cells #[.int .i64 (b : Int), .slice A5 xss.length c5] 49)).heap.size ∧ (w5.alloc (.cells #[.int .i64 (b : Int), .slice A5 xss.length c5] 49)).cell? ⟨w5.heap.size, 0, none⟩ = some (.int .i64 (b : Int)) ∧ (w5.alloc (.cells #[.int .i64 (b : Int), .slice A5 xss.length c5] 49)).cell? ⟨w5.heap.size, 1, none⟩ = some (.slice A5 xss.length c5) ∧ RdC (w5.alloc (.cells #[.int .i64 (b : Int), .slice A5 xss.length c5] 49)) (w5.alloc (.cells #[.int .i64 (b : Int), .slice A5 xss.length c5] 49)).heap.size A5 xss2) := Lib.hid (by
            refine ⟨HBR.out _ (HB5.out.alloc HB5.out.size _), (by have := HB5.out.size; omega), (by simp), (by simp), (by simp), (HO5.out.rdC.below ((Below.refl _ _).alloc (Nat.le_refl _) _) (Nat.le_refl _)).more (by simp)⟩)
           have HC : Hid (CutP b t xss.length w1 W1 A3 (netL xss (2 ^ b)) _ _ _) := Lib.hid ⟨_, c5, A5, xss2, rfl, rfl, HP.out.1, HP.out.2.1, HP.out.2.2.1, HP.out.2.2.2.1, HP.out.2.2.2.2.1, HP.out.2.2.2.2.2, HQ2.out⟩
           go_wp2_with fail
           go_meet
           exact HC.out)
  case rest =>
    obtain ⟨p, c5, A5, xss2, rfl, rfl, ⟨hB6, hR6⟩, hp1, hp2, hp3, hp4, hp5, HQ2⟩ := hcut
    have HQ2 := Lib.hid HQ2
    have HQm := implQ_any A5 c5 wc.heap.size b xss2 wc hp5 (Nat.le_refl _) (by have := HQ2.out.2.2.1; omega) (by have := HQ2.out.2.2.2; omega)
    rw [HQ2.out.1, HQ2.out.2.2.1] at HQm
    have HQm := Lib.hid HQm
    have HB6 := Lib.hid hB6
    have HR6 := Lib.hid hR6
    have HL1 := Lib.hid (show xss.length = xss.length from rfl)
    clear hp5 hB6 hR6
    go_wp2_with fail
    refine HQm.out.mono ?_
    rintro e w7 ⟨hq, _⟩
    obtain ⟨t', rfl, hIs, b7⟩ := hq (by trivial)
    simp only [Int.toNat_natCast] at hIs
    obtain rfl : t' = t := hIs.uniq HQ2.out.2.1
    have HB7 := Lib.hid (HB6.out.trans (b7.mono HB6.out.size))
    have HBw := Lib.hid (HX.out.trans (HB7.out.mono HX.out.size))
    have f0 := (HB7.out.cell (p := ⟨w1.heap.size, 0, none⟩) hzz).trans e0
    have f1 := (HB7.out.cell (p := ⟨w1.heap.size, 1, none⟩) hzz).trans e1
    have HRP := Lib.hid ((HR6.out.below b7 (Nat.le_refl _)).more b7.size)
    clear hq hIs b7 HQm
    have HEv : Hid (∀ (W : World) (A' : Option Addr) (c' : Nat) (cs : List Nat), Below w7.heap.size w7 W → RdI W W.heap.size A' (ofN cs) → cs.length = xss.length → (∀ j, cs.getD j 0 ≤ b) → cs.sum ≤ 6 → Calls Try.prog 39 #[.slice A3 (netL xss (2 ^ b)).length c3, .int .i64 (b : Int), .slice A' xss.length c'] W (IndRet (RankM.Ind (tks (natss xss) cs)) W)) := Lib.hid fun W A' c' cs hW hr hcl hcb hcs => by
      have hP := HRP.out
      have h := Box.implEven_any A3 A' c3 c' W.heap.size b (netL xss (2 ^ b)) (ofN cs) W ((HRP.out.below hW (Nat.le_refl _)).more hW.size) hr (Nat.le_refl _) (by rw [netL_len]; have : 2 ^ b ≤ 2 ^ 5 := Nat.pow_le_pow_right (by decide) hb5; omega) (by
        rw [netL_tot]
        have h1 : 2 ^ b ≤ 2 ^ 5 := Nat.pow_le_pow_right (by decide) hb5
        have h2 : 2 ^ b * xss.length ≤ 32 * 3 := Nat.mul_le_mul (by omega) hl3
        omega) (by rw [ofN_len]; omega)
      rw [ofN_len, hcl] at h
      refine h.mono ?_
      rintro e w' ⟨rfl, h2⟩
      exact ⟨_, rfl, even_net hb5 hl1' hl3 HAll.out cs hcl hcb hcs, h2⟩
    have hNp := netL_len xss (2 ^ b)
    generalize netL xss (2 ^ b) = P at *
    obtain ⟨N, hN⟩ : ∃ N, P.length = N := ⟨_, rfl⟩
    obtain ⟨L, hL⟩ : ∃ L, xss.length = L := ⟨_, rfl⟩
    have hMl : (natss xss).length = L := by rw [natss_len, hL]
    have hEx := bad_ex (b := b) (t := t') (Ms := natss xss) (by omega) (by omega) HIQ.out
    have hQI := HIQ.out.2.1
    have HInd : Hid (∀ x y z, x + y + z = b - t' → (L < 3 → z = 0) → (L < 2 → y = 0) → RankM.Ind (tks (natss xss) ([x, y, z].take L))) := Lib.hid fun x y z hs hz hy => by
      have hx := cut_facts (L := L) (x := x) (y := y) (z := z) (b := x + y + z) (by omega) (by omega) hz hy (by omega) (by omega) (by omega)
      have := hQI ([x, y, z].take L) (by rw [hx.1, hMl]) (by rw [hx.2.1]; exact hs)
      simpa using this
    rw [hMl] at hEx
    rw [hL, hN] at HEv
    rw [hL] at f1 hl1' hl3
    rw [hN] at hNp ⊢
    have HEx := Lib.hid hEx
    obtain ⟨p1, p2⟩ := pw_bd6 (b := b) (by omega)
    have hNi : ((N : Int) != (2 : Int) ^ b) = false := by
      have : ((2 ^ b : Nat) : Int) = (2 : Int) ^ b := by simp
      simp only [bne_eq_false_iff_eq]; omega
    have HCf := Lib.hid (fun x y z (hz : L < 3 → z = 0) (hy : L < 2 → y = 0) (hx : x ≤ b) (hyb : y ≤ b) (hzb : z ≤ b) => cut_facts (L := L) (b := b) hl1' hl3 hz hy hx hyb hzb)
    generalize natss xss = Ms at *
    clear hNp hN hL hMl hEx hQI HRP HR6 HB6 HQ HPt HPtL HRd HQ2 HIQ g0 g1 HAll HBit
    have H0 : Hid (Below w7.heap.size w7 w7) := Lib.hid (Below.refl _ _)
    have hgt1 : decide (b < t') = false := decide_eq_false (by omega)
    have hgt2 : ¬ b < t' := by omega
    have hlt0 : decide ((t' : Int) < 0) = false := decide_eq_false (by omega)
    have hzz7 : w1.heap.size < w7.heap.size := by have := HB7.out.size; omega
    go_wp2
    go_loopw [16, 17] (fun uv xv wr => ∃ (x : Nat) (u : Bool), x ≤ b + 1 ∧ xv = .int .i64 (x : Int) ∧ uv = .bool u ∧ Hid (u = false → ∀ x' y z, x' < x → y ≤ b → z ≤ b → ¬ Bad L b t' Ms x' y z) ∧ Hid (Below w7.heap.size w7 wr)) (fun _ xv _ => b + 1 - (intOf xv).toNat)
    case atStart => exact ⟨0, false, Nat.zero_le _, rfl, rfl, Lib.hid fun _ x' y z h => absurd h (Nat.not_lt_zero x'), H0⟩
    case round =>
      obtain ⟨x, u, hx, rfl, rfl, hu, HB⟩ := hrel
      clear H0
      have d0 := (HB.out.cell (p := ⟨w1.heap.size, 0, none⟩) hzz7).trans f0
      by_cases hxt : x ≤ b
      · have H1 : Hid (u = false → (∀ x' y z, x' < x → y ≤ b → z ≤ b → ¬ Bad L b t' Ms x' y z) ∧ ∀ y z, y < 0 → z ≤ b → ¬ Bad L b t' Ms x y z) := Lib.hid fun h => ⟨hu.out h, fun y z h => absurd h (Nat.not_lt_zero y)⟩
        go_wp2
        go_loopw [16, 18] (fun uv yv wr => ∃ (y : Nat) (u : Bool), y ≤ b + 1 ∧ yv = .int .i64 (y : Int) ∧ uv = .bool u ∧ Hid (u = false → (∀ x' y z, x' < x → y ≤ b → z ≤ b → ¬ Bad L b t' Ms x' y z) ∧ ∀ y' z, y' < y → z ≤ b → ¬ Bad L b t' Ms x y' z) ∧ Hid (Below w7.heap.size w7 wr)) (fun _ yv _ => b + 1 - (intOf yv).toNat)
        case atStart => exact ⟨0, u, Nat.zero_le _, rfl, rfl, H1, HB⟩
        case round =>
          obtain ⟨y, u, hy, rfl, rfl, hu, HB⟩ := hrel
          clear H1 d0
          have d0 := (HB.out.cell (p := ⟨w1.heap.size, 0, none⟩) hzz7).trans f0
          by_cases hyt : y ≤ b
          · have H2 : Hid (u = false → (∀ x' y z, x' < x → y ≤ b → z ≤ b → ¬ Bad L b t' Ms x' y z) ∧ (∀ y' z, y' < y → z ≤ b → ¬ Bad L b t' Ms x y' z) ∧ ∀ z, z < 0 → ¬ Bad L b t' Ms x y z) := Lib.hid fun h => ⟨(hu.out h).1, (hu.out h).2, fun z h => absurd h (Nat.not_lt_zero z)⟩
            go_wp2
            go_loopw [16, 19] (fun uv zv wr => ∃ (z : Nat) (u : Bool), z ≤ b + 1 ∧ zv = .int .i64 (z : Int) ∧ uv = .bool u ∧ Hid (u = false → (∀ x' y z, x' < x → y ≤ b → z ≤ b → ¬ Bad L b t' Ms x' y z) ∧ (∀ y' z, y' < y → z ≤ b → ¬ Bad L b t' Ms x y' z) ∧ ∀ z', z' < z → ¬ Bad L b t' Ms x y z') ∧ Hid (Below w7.heap.size w7 wr)) (fun _ zv _ => b + 1 - (intOf zv).toNat)
            case atStart => exact ⟨0, u, Nat.zero_le _, rfl, rfl, H2, HB⟩
            case round =>
              obtain ⟨z, u, hz, rfl, rfl, hu, HB⟩ := hrel
              clear H2 d0
              have d0 := (HB.out.cell (p := ⟨w1.heap.size, 0, none⟩) hzz7).trans f0
              by_cases hzt : z ≤ b
              · have HNx : Hid (∀ u2 : Bool, (u2 = false → u = false ∧ ¬ Bad L b t' Ms x y z) → (u2 = false → (∀ x' y z, x' < x → y ≤ b → z ≤ b → ¬ Bad L b t' Ms x' y z) ∧ (∀ y' z, y' < y → z ≤ b → ¬ Bad L b t' Ms x y' z) ∧ ∀ z', z' < z + 1 → ¬ Bad L b t' Ms x y z')) := Lib.hid fun u2 h h2 => by
                  obtain ⟨g1, g2⟩ := h h2
                  obtain ⟨g3, g4, g5⟩ := hu.out g1
                  refine ⟨g3, g4, fun z' hz' => ?_⟩
                  rcases Nat.lt_or_ge z' z with h6 | h6
                  · exact g5 z' h6
                  · rw [show z' = z by omega]; exact g2
                clear hu
                by_cases hk1 : L < 3 ∧ 0 < z
                · obtain ⟨k1, k2⟩ := hk1
                  have HN := Lib.hid (HNx.out u fun h => ⟨h, fun hb => by have := hb.1 k1; omega⟩)
                  go_wp2
                  go_roundw
                  case rel => exact ⟨z + 1, u, by omega, by go_num, rfl, HN, HB⟩
                  case measure => simp [intOf]; omega
                · by_cases hk2 : L < 2 ∧ 0 < y
                  · obtain ⟨k1, k2⟩ := hk2
                    have HN := Lib.hid (HNx.out u fun h => ⟨h, fun hb => by have := hb.2.1 k1; omega⟩)
                    have hz0 : z ≤ 0 := by omega
                    go_wp2
                    go_roundw
                    case rel => exact ⟨z + 1, u, by omega, by go_num, rfl, HN, HB⟩
                    case measure => simp [intOf]; omega
                  · have hLz : L < 3 → z = 0 := fun h => by omega
                    have hLy : L < 2 → y = 0 := fun h => by omega
                    obtain ⟨q1, q2, q3⟩ := HCf.out x y z hLz hLy hxt hyt hzt
                    have hcmb : 3 ≤ L ∨ (L < 3 ∧ 2 ≤ L ∧ z ≤ 0) ∨ (L < 2 ∧ z ≤ 0 ∧ y ≤ 0) := by omega
                    have HBA := Lib.hid (HB.out.alloc HB.out.size (.cells #[.int .i64 (x : Int), .int .i64 (y : Int), .int .i64 (z : Int)] 2))
                    have HEw := Lib.hid (fun hs6 => HEv.out (wr.alloc (.cells #[.int .i64 (x : Int), .int .i64 (y : Int), .int .i64 (z : Int)] 2)) (some ⟨wr.heap.size, 0, none⟩) 3 ([x, y, z].take L) HBA.out (cut_rd wr L x y z hl3) q1 q3 (by rw [q2]; exact hs6))
                    have HI1 := Lib.hid (fun hs => HInd.out x y z hs hLz hLy)
                    have d0a := (HBA.out.cell (p := ⟨w1.heap.size, 0, none⟩) hzz7).trans f0
                    have hL3 : (L : Int) ≤ 3 := by omega
                    clear HEv HInd HCf hk1 hk2 q1 q2 q3 hLz hLy
                    by_cases s1 : x + y + z = b - t'
                    · have hb1 : ((x : Int) + (y : Int) + (z : Int) == (b : Int) - (t' : Int)) = true := by simp only [beq_iff_eq]; omega
                      have hb2 : ((x : Int) + (y : Int) + (z : Int) == (b : Int) - (t' : Int) + 1) = false := by simp only [beq_eq_false_iff_ne]; omega
                      have HE1 := Lib.hid (HEw.out (by omega))
                      have HIr := Lib.hid (HI1.out s1)
                      have HN := Lib.hid (HNx.out u fun h => ⟨h, fun hb => by have := hb.2.2.1; omega⟩)
                      clear s1 HEw HI1 HNx
                      rcases hcmb with h3 | ⟨h3, h2, hz0⟩ | ⟨h2, hz0, hy0⟩
                      all_goals
                        go_wp2_with fail
                        refine HE1.out.mono ?_
                        rintro e w8 ⟨r, rfl, hr, b8⟩
                        obtain rfl : r = true := hr.2 HIr.out
                        have HB8 := Lib.hid (HBA.out.trans (b8.mono HBA.out.size))
                        have d08 := (HB8.out.cell (p := ⟨w1.heap.size, 0, none⟩) hzz7).trans f0
                        clear hr b8
                        cases u
                        all_goals
                          go_wp2
                          go_roundw
                          case rel => first | exact ⟨z + 1, _, by omega, by go_num, rfl, HN, HB8⟩ | exact ⟨z + 1, _, by omega, by go_num, rfl, Lib.hid (fun _ => HN.out (by trivial)), HB8⟩
                          case measure => simp [intOf]; omega
                    · have hb1 : ((x : Int) + (y : Int) + (z : Int) == (b : Int) - (t' : Int)) = false := by simp only [beq_eq_false_iff_ne]; omega
                      by_cases s2 : x + y + z = b - t' + 1
                      · have hb2 : ((x : Int) + (y : Int) + (z : Int) == (b : Int) - (t' : Int) + 1) = true := by simp only [beq_iff_eq]; omega
                        have HE1 := Lib.hid (HEw.out (by omega))
                        clear s1 s2 HEw HI1
                        cases u with
                        | true =>
                          have HN := Lib.hid (HNx.out true fun h => by cases h)
                          clear HNx HE1
                          rcases hcmb with h3 | ⟨h3, h2, hz0⟩ | ⟨h2, hz0, hy0⟩
                          all_goals
                            go_wp2
                            go_roundw
                            case rel => first | exact ⟨z + 1, _, by omega, by go_num, rfl, HN, HBA⟩ | exact ⟨z + 1, _, by omega, by go_num, rfl, Lib.hid (fun _ => HN.out (by trivial)), HBA⟩
                            case measure => simp [intOf]; omega
                        | false =>
                          rcases hcmb with h3 | ⟨h3, h2, hz0⟩ | ⟨h2, hz0, hy0⟩
                          all_goals
                            go_wp2_with fail
                            refine HE1.out.mono ?_
                            rintro e w8 ⟨r, rfl, hr, b8⟩
                            have HB8 := Lib.hid (HBA.out.trans (b8.mono HBA.out.size))
                            have HN := Lib.hid (HNx.out (!r) fun h => ⟨(by first | rfl | trivial), fun hb => hb.2.2.2 (hr.1 (by simpa using h))⟩)
                            clear hr b8
                            cases r
                            all_goals
                              go_wp2
                              go_roundw
                              case rel => first | exact ⟨z + 1, _, by omega, by go_num, rfl, HN, HB8⟩ | exact ⟨z + 1, _, by omega, by go_num, rfl, Lib.hid (fun _ => HN.out (by trivial)), HB8⟩
                              case measure => simp [intOf]; omega
                      · have hb2 : ((x : Int) + (y : Int) + (z : Int) == (b : Int) - (t' : Int) + 1) = false := by simp only [beq_eq_false_iff_ne]; omega
                        have HN := Lib.hid (HNx.out u fun h => ⟨h, fun hb => s2 hb.2.2.1⟩)
                        clear s1 s2 HEw HI1 HNx
                        rcases hcmb with h3 | ⟨h3, h2, hz0⟩ | ⟨h2, hz0, hy0⟩
                        all_goals
                          cases u
                          all_goals
                            go_wp2
                            go_roundw
                            case rel => first | exact ⟨z + 1, _, by omega, by go_num, rfl, HN, HBA⟩ | exact ⟨z + 1, _, by omega, by go_num, rfl, Lib.hid (fun _ => HN.out (by trivial)), HBA⟩
                            case measure => simp [intOf]; omega
              · have HN : Hid (u = false → (∀ x' y z, x' < x → y ≤ b → z ≤ b → ¬ Bad L b t' Ms x' y z) ∧ ∀ y' z, y' < y + 1 → z ≤ b → ¬ Bad L b t' Ms x y' z) := Lib.hid fun h => by
                  obtain ⟨g3, g4, g5⟩ := hu.out h
                  refine ⟨g3, fun y' z' hy' hz' => ?_⟩
                  rcases Nat.lt_or_ge y' y with h6 | h6
                  · exact g4 y' z' h6 hz'
                  · rw [show y' = y by omega]; exact g5 z' (by omega)
                clear hu
                go_wp2
                go_roundw
                case rel => exact ⟨y + 1, u, by omega, by go_num, rfl, HN, HB⟩
                case measure => simp [intOf]; omega
          · have HN : Hid (u = false → ∀ x' y z, x' < x + 1 → y ≤ b → z ≤ b → ¬ Bad L b t' Ms x' y z) := Lib.hid fun h x' y' z' hx' hy' hz' => by
              obtain ⟨g3, g4⟩ := hu.out h
              rcases Nat.lt_or_ge x' x with h6 | h6
              · exact g3 x' y' z' h6 hy' hz'
              · rw [show x' = x by omega]; exact g4 y' z' (by omega) hz'
            clear hu
            go_wp2
            go_roundw
            case rel => exact ⟨x + 1, u, by omega, by go_num, rfl, HN, HB⟩
            case measure => simp [intOf]; omega
      · have HF := Lib.hid (HBw.out.trans (HB.out.mono HBw.out.size))
        by_cases ht0 : t' = 0
        · have htb0 : ((t' : Int) == 0) = true := by simp only [beq_iff_eq]; omega
          clear ht0 hu
          go_wp2
          go_ret
          exact ⟨rfl, HF.out⟩
        · have htb0 : ((t' : Int) == 0) = false := by simp only [beq_eq_false_iff_ne]; omega
          have hut : u = true := by
            cases u
            · obtain ⟨x1, y1, z1, g1, g2, g3, g4⟩ := HEx.out (by omega)
              exact absurd g4 (hu.out rfl x1 y1 z1 (by omega) g2 g3)
            · rfl
          subst hut
          clear ht0 hu
          go_wp2
          go_ret
          exact ⟨rfl, HF.out⟩
theorem quality_v {w : World} {v u : Value} (h : Open.IsBytes w v) (h' : Open.IsBytes w u) : Calls Try.prog 9 #[v, u] w fun e w' => e = .returned (.bool true) ∧ Below w.heap.size w w' := by
  obtain ⟨A, c, zs, rfl, hl, hz, hx⟩ := h.ex
  obtain ⟨A', c', ys, rfl, hl', hz', hx'⟩ := h'.ex
  exact quality_any A A' c c' zs ys w hl hl' hz hz' hx hx'
end Go.Proofs.Ytjkcdnfmmfpbjaa.QualW

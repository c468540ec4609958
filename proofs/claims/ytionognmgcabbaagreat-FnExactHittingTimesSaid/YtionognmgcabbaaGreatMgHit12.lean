/- The program: the hitting times of a walk. -/
import Derived.Test.YtionognmgcabbaaGreatMgHit11
import Derived.Test.YtionognmgcabbaaGreatMgHit10
import Derived.Test.YtionognmgcabbaaGreatMgHit06
namespace Go.Proofs.YtionognmgcabbaaGreat.Ratio
open Go.RowKit Go.Proofs.YtionognmgcabbaaGreat Go.Proofs.YtionognmgcabbaaGreat.Base Go.Proofs.YtionognmgcabbaaGreat.Mem Go.Proofs.YtionognmgcabbaaGreat.NatM Go.Proofs.YtionognmgcabbaaGreat.Nat32 Go.Proofs.YtionognmgcabbaaGreat.RatM Go.Proofs.YtionognmgcabbaaGreat.Blk Go.Proofs.YtionognmgcabbaaGreat.MemF Go.Proofs.YtionognmgcabbaaGreat.ChM Go.Proofs.YtionognmgcabbaaGreat.GaussM Go.Proofs.YtionognmgcabbaaGreat.WalkM Go.Proofs.YtionognmgcabbaaGreat.GiveM
open Go.Proofs.YtionognmgcabbaaGreat.Inv (natOf natOf_eq len_pos Rat3 not_slice not_bool frz)
set_option linter.unusedVariables false
/-- a ratio in a box, while a row is under way -/
structure Bx (wo : World) (g9 : Nat) (f : Nat → Rat) (i : Nat) (ev : Value) (cs : List Value) (q : Rat) (s : Bool) (A1 : Option Addr) (k1 c1 : Nat) (A2 : Option Addr) (k2 c2 : Nat) (w : World) : Prop where
  row : OwnR w wo.heap.size ev i f cs
  nou : NoU w ev
  bel : Below wo.heap.size wo w
  blk : Blk w g9 87 #[.bool s, .slice A1 k1 c1, .slice A2 k2 c2]
  val : IsRt w q (.agg #[.bool s, .slice A1 k1 c1, .slice A2 k2 c2])
  low : wo.heap.size ≤ g9
  ne : ∀ b, ev.ownBlock = some b → b ≠ g9
theorem Bx.make {wo w w' : World} {f : Nat → Rat} {i : Nat} {ev : Value} {cs : List Value} {q : Rat} {s : Bool} {A1 A2 : Option Addr} {k1 c1 k2 c2 : Nat} (h1 : OwnR w wo.heap.size ev i f cs) (h2 : NoU w ev) (h3 : Below wo.heap.size wo w) (hb : Below w.heap.size w w') (hI : IsRt w' q (.agg #[.bool s, .slice A1 k1 c1, .slice A2 k2 c2])) :
    Bx wo w'.heap.size f i ev cs q s A1 k1 c1 A2 k2 c2 (w'.alloc (.cells #[.bool s, .slice A1 k1 c1, .slice A2 k2 c2] 87)) := by
  have hb5 : Below w'.heap.size w' (w'.alloc (.cells #[.bool s, .slice A1 k1 c1, .slice A2 k2 c2] 87)) := (Below.refl _ _).alloc (Nat.le_refl _) _
  have hbb := Base.Below.nextA hb hb5
  refine ⟨h1.below hbb, h2.below hbb, below_next (Nat.le_refl _) h3 hbb, Blk.new w' _ _, hI.below hb5, Nat.le_trans h3.size hb.size, fun b e => ?_⟩
  obtain ⟨_, _, _, h⟩ := ownsRow_block h1.row e
  have := hb.size
  omega
theorem Bx.put {wo w w' : World} {g9 : Nat} {f : Nat → Rat} {i : Nat} {ev : Value} {cs : List Value} {q q' : Rat} {s t : Bool} {A1 A2 C1 C2 : Option Addr} {k1 c1 k2 c2 m1 l1 m2 l2 : Nat} (h : Bx wo g9 f i ev cs q s A1 k1 c1 A2 k2 c2 w) (hb : Below w.heap.size w w') (hI : IsRt w' q' (.agg #[.bool t, .slice C1 m1 l1, .slice C2 m2 l2])) :
    Bx wo g9 f i ev cs q' t C1 m1 l1 C2 m2 l2 (put3o w' g9 0 (.bool t) (.slice C1 m1 l1) (.slice C2 m2 l2)) := by
  have K9q := h.blk.belowS hb
  exact ⟨(h.row.below hb).put3o K9q rfl rfl rfl h.ne _ _ _, (h.nou.below hb).put3o h.ne _ _ _, put3o_below (below_next (Nat.le_refl _) h.bel hb) h.low _ _ _, ((K9q.setTo 0 _ rfl).setTo 1 _ rfl).setTo 2 _ rfl, isRt_put3o hI K9q rfl rfl rfl _ _ _, h.low, h.ne⟩
def HtRel (n p : Nat) (W : Nat → Nat → Rat) (w : World) (kv lv : Value) (wr : World) : Prop :=
  ∃ (r : Nat) (us : List Value), kv = .int .i64 (r : Int) ∧ r ≤ n ∧ Hid (OwnRG wr w.heap.size lv r (n + 1) (htI n W p) us) ∧ Hid (Below w.heap.size w wr)
theorem lenW_any {A : Option Addr} {c n : Nat} (w : World) : Calls Tryz.prog 91 #[.slice A n c] w fun e w' => e = .returned (.int .i64 (n : Int)) ∧ w' = w := by
  go_enter Tryz.func91, Tryz.ntmps91
  go_wp2
  go_ret
  exact ⟨rfl, rfl⟩
set_option maxHeartbeats 4000000 in
set_option maxRecDepth 100000 in
theorem hitI_any {A : Option Addr} {c B n : Nat} {L : Nat → Nat} {fs : Nat → List Int} {t : Int} (w : World) (hx : RdFF w B A n L fs) (hB : B ≤ w.heap.size) (hL : ∀ i, i < n → L i ≤ 1048576) (hn : n ≤ 1048576) :
    Calls Tryz.prog 36 #[.agg #[.slice A n c], .int .i64 t] w (FsRet (htN n L fs t) (htR n L fs t) (htO n L fs t) w) := by
  obtain ⟨iw, wi, wz0, wz1, wz2⟩ := info_parts infoR
  obtain ⟨ir, ri, rz0, rz1, rz2⟩ := info_parts infoRR
  obtain ⟨W0, hW0⟩ : ∃ W0, W0 = w.alloc (.cells #[.slice A n c] 33) := ⟨_, rfl⟩
  have hb0 : Below w.heap.size w W0 := by rw [hW0]; exact (Below.refl _ _).alloc (Nat.le_refl _) _
  have K0 : Hid (Blk W0 w.heap.size 33 #[.slice A n c]) := Lib.hid (by rw [hW0]; exact Blk.new w _ _)
  have HX0 := Lib.hid ((hx.below hb0 hB).more (Nat.le_trans hB hb0.size))
  have HV := Lib.hid (walkI_any (c := c) W0 HX0.out (Nat.le_refl _) (fun i hi => by have := hL i hi; omega) (by omega))
  have HB0 := Lib.hid hb0
  have HW0 := Lib.hid hW0
  clear hx hb0 hW0 hL
  have x0 := K0.out.at 0 (v := .slice A n c) rfl
  rw [HW0.out] at x0
  cases hv : wkB n L fs with
  | false =>
    have HEE := Lib.hid (ht_no (n := n) (L := L) (fs := fs) (t := t) (by unfold htV; rw [hv]; rfl))
    rw [hv] at HV
    clear hv
    go_enter Tryz.func36, Tryz.ntmps36
    go_wp2_with fail
    rw [← HW0.out]
    clear x0
    refine HV.out.mono ?_
    rintro e w1 ⟨rfl, hb1⟩
    have HBZ := Lib.hid (Base.Below.nextA HB0.out hb1)
    clear hb1
    go_wp2
    go_ret2
    rw [HEE.out.1, HEE.out.2.1, HEE.out.2.2]
    exact FsRet.no HBZ.out
  | true =>
    rw [hv] at HV
    obtain ⟨hn1, hn6, hLn, hfs, hsum, hdg⟩ := wk_all hv
    have HRW := Lib.hid (fun W (h : Below W0.heap.size W0 W) => rowsI_any (c := c) W (HX0.out.below h (Nat.le_refl _)) h.size (fun i hi => by rw [hLn i hi]; exact hfs i hi) (fun i hi => by rw [hLn i hi]; omega) (by omega))
    have HLN := Lib.hid hLn
    have HDG := Lib.hid hdg
    have HVB := Lib.hid hv
    have hwr : IntKind.i64.wrap ((n : Int) - 1) = (n : Int) - 1 := by rw [IntKind.wrap_i64]; omega
    clear hv hLn hfs hsum hdg
    cases hp : htP n t with
    | false =>
      have HEE := Lib.hid (ht_no (n := n) (L := L) (fs := fs) (t := t) (by unfold htV; rw [HVB.out, hp]; rfl))
      have HIR := Lib.hid (fun W' => inRange_any t 0 ((n : Int) - 1) W')
      rw [show inR t 0 ((n : Int) - 1) = false from hp] at HIR
      clear hp
      go_enter Tryz.func36, Tryz.ntmps36
      go_wp2_with fail
      rw [← HW0.out]
      clear x0
      refine HV.out.mono ?_
      rintro e w1 ⟨rfl, hb1⟩
      have HBZ := Lib.hid (Base.Below.nextA HB0.out hb1)
      have x1 := (K0.out.belowS hb1).at 0 (v := .slice A n c) rfl
      clear hb1
      go_wp2_with fail
      refine (lenW_any _).mono ?_
      rintro e w2 ⟨rfl, rfl⟩
      go_wp2_with fail
      refine (HIR.out _).mono ?_
      rintro e w2 ⟨rfl, rfl⟩
      go_wp2
      go_ret2
      rw [HEE.out.1, HEE.out.2.1, HEE.out.2.2]
      exact FsRet.no HBZ.out
    | true =>
      have HPB := Lib.hid hp
      have HIR := Lib.hid (fun W' => inRange_any t 0 ((n : Int) - 1) W')
      rw [show inR t 0 ((n : Int) - 1) = true from hp] at HIR
      obtain ⟨p, rfl, hpn⟩ := htP_true hp
      clear hp
      obtain ⟨W, hWd⟩ : ∃ W : Nat → Nat → Rat, W = wQ fs := ⟨_, rfl⟩
      have HWD := Lib.hid hWd
      have hss := sol_congr (fun y => ht_same (W := W) hpn y)
      have HSB := Lib.hid hss.1
      have HSX : Hid (∀ j, j < n → solX (htI n W p) n n j = htX n fs (p : Int) j) := Lib.hid (fun j hj => by rw [hss.2 j hj, hWd]; rfl)
      have HD : Hid (∀ r c, r < n → c ≤ n → Dg (B32 ^ 4) (htI n W p r c)) := Lib.hid (by rw [hWd]; exact htI_dg HDG.out)
      have HSZ : Hid (∀ r c, r < n → c < n → szR (-(hqI W p r c)) ≤ 200000) := Lib.hid (fun r c hr hc => by have := dgb_sz (hqI_dg (W := W) (p := p) (by rw [hWd]; exact HDG.out) hr hc); omega)
      have HRE := Lib.hid (fun W' A3 c3 (hr : RdRR W' A3 n L (wQ fs)) => reachI_any (c := c3) W' (hr.congrL (L' := fun _ => n) HLN.out) hpn hn6)
      have HZ0 := Lib.hid (fun W' => whole_rt 0 0 (by decide) ⟨rfl, rfl, by decide⟩ W')
      have HZ1 := Lib.hid (fun W' => whole_rt 1 1 (by decide) ⟨rfl, rfl, by decide +kernel⟩ W')
      clear hWd hss
      go_enter Tryz.func36, Tryz.ntmps36
      go_wp2_with fail
      rw [← HW0.out]
      clear x0
      refine HV.out.mono ?_
      rintro e w1 ⟨rfl, hb1⟩
      have HW1 := Lib.hid hb1
      have x1 := (K0.out.belowS hb1).at 0 (v := .slice A n c) rfl
      clear hb1 HV
      go_wp2_with fail
      refine (lenW_any _).mono ?_
      rintro e w2 ⟨rfl, rfl⟩
      go_wp2_with fail
      refine (HIR.out _).mono ?_
      rintro e w2 ⟨rfl, rfl⟩
      go_wp2_with fail
      refine (HRW.out _ HW1.out).mono ?_
      rintro e w3 ⟨A3, c3, rfl, hrr, hb3⟩
      have HW2 := Lib.hid (Base.Below.nextA HW1.out hb3)
      have HRR := Lib.hid hrr
      have HX3 : Hid (RdRR w3 A3 n (fun _ => n) W) := Lib.hid (by rw [HWD.out]; exact hrr.congrL HLN.out)
      clear hb3 hrr HRW HW1 x1 HIR hwr
      go_wp2_with fail
      refine (HRE.out w3 A3 c3 HRR.out).mono ?_
      rintro e w4b ⟨rfl, hb4⟩
      have HW3 := Lib.hid (Base.Below.nextA HW2.out hb4)
      have HX := Lib.hid (HX3.out.below hb4)
      clear hb4 HRR HX3 HRE HW2
      cases hrb : rchB n (wQ fs) p with
      | false =>
        have HEE := Lib.hid (ht_no (n := n) (L := L) (fs := fs) (t := (p : Int)) (by unfold htV; rw [HVB.out, HPB.out, Int.toNat_natCast, hrb]; rfl))
        have HBZ := Lib.hid (Base.Below.nextA HB0.out HW3.out)
        clear hrb
        go_wp2
        go_ret2
        rw [HEE.out.1, HEE.out.2.1, HEE.out.2.2]
        exact FsRet.no HBZ.out
      | true =>
        have HRB := Lib.hid hrb
        have H0 : Hid (HtRel n p W w4b (.int .i64 0) (.slice (some ⟨w4b.heap.size, 0, none⟩) 0 0) (w4b.alloc (.cells #[] 89))) := Lib.hid ⟨0, [], rfl, Nat.zero_le _, Lib.hid (OwnRG.lit0 w4b _ _), Lib.hid ((Below.refl _ _).alloc (Nat.le_refl _) _)⟩
        clear hrb
        go_wp2
        go_loopw [37, 7] (fun kv lv wr => HtRel n p W w4b kv lv wr) (fun kv _ _ => n - (intOf kv).toNat)
        case atStart => exact H0.out
        case round =>
          obtain ⟨r, us, rfl, hr, HO, HB⟩ := hrel
          clear H0
          obtain ⟨Al, cl, hlv, hAl⟩ := ownsRow_form HO.out.row
          subst hlv
          by_cases hrn : r < n
          · obtain ⟨wo, rfl⟩ : ∃ wo : World, wo = wr := ⟨_, rfl⟩
            have H1 : Hid (SoRel n (htI n W p r) wo (.int .i64 0) (.slice (some ⟨wo.heap.size, 0, none⟩) 0 0) (wo.alloc (.cells #[] 87))) := Lib.hid ⟨0, [], rfl, Nat.zero_le _, Lib.hid (OwnR.lit0 wo _), Lib.hid (NoU.lit0 wo _), Lib.hid ((Below.refl _ _).alloc (Nat.le_refl _) _)⟩
            have hwo := HB.out.size
            have hrn2 : (r : Int) < (n : Int) := by omega
            obtain ⟨g0, Ai, ci, rfl, hg0, y, hrow⟩ := (HX.out.below HB.out).at hrn
            have HR : Hid (RdR wo Ai n (W r)) := Lib.hid hrow
            clear hrow
            go_wp2
            clear y
            go_loopw [45, 10] (fun iv ev w2 => SoRel n (htI n W p r) wo iv ev w2) (fun iv _ _ => n - (intOf iv).toNat)
            case atStart => exact H1.out
            case round =>
              obtain ⟨j, cs, rfl, hj, HE, HNU, HBo⟩ := hrel
              clear H1
              have hso := HBo.out.size
              obtain ⟨Ae, ce, rfl, _⟩ := HE.out.form
              by_cases hjn : j < n
              · have hjn2 : (j : Int) < (n : Int) := by omega
                obtain ⟨gm, s, A1, k1, c1, A2, k2, c2, rfl, hgm, x0, x1, x2, hI⟩ := (HR.out.below HBo.out).at hjn
                go_upto_region 14 with (fail)
                obtain ⟨W5, hW5⟩ : ∃ W5, W5 = wr.alloc (.cells #[.bool s, .slice A1 k1 c1, .slice A2 k2 c2] 87) := ⟨_, rfl⟩
                rw [← hW5]
                obtain ⟨g9, hg9⟩ : ∃ g9, g9 = wr.heap.size := ⟨_, rfl⟩
                rw [← hg9]
                obtain ⟨q0, hq0⟩ : ∃ q0, q0 = W r j := ⟨_, rfl⟩
                have HB5 : Hid (Bx wo g9 (htI n W p r) j (.slice Ae j ce) cs q0 s A1 k1 c1 A2 k2 c2 W5) := Lib.hid (by rw [hW5, hg9, hq0]; exact Bx.make HE.out HNU.out HBo.out (Below.refl _ _) hI)
                obtain ⟨q1, hq1⟩ : ∃ q1, q1 = hqI W p r j := ⟨_, rfl⟩
                obtain ⟨q2, hq2⟩ : ∃ q2, q2 = -q1 := ⟨_, rfl⟩
                obtain ⟨q3, hq3⟩ : ∃ q3, q3 = (if r = j then q2 + 1 else q2) := ⟨_, rfl⟩
                have HQE : Hid (q3 = htI n W p r j) := Lib.hid (by unfold htI; rw [hq3, hq2, hq1, if_pos hjn])
                have HSZ2 : Hid (szR q2 ≤ 200000 ∧ szR 1 ≤ 200000) := Lib.hid ⟨by rw [hq2, hq1]; exact HSZ.out r j hrn hjn, by have := dgb_sz (dg_one (m := 1) (Nat.le_refl _)); omega⟩
                have HQ2 := Lib.hid hq2
                have HQ3 := Lib.hid hq3
                clear x0 x1 x2 hI hW5 hg9 hgm HE HNU HBo hq2 hq3
                by_cases hrp : r = p
                case' pos =>
                  have heq : ((r : Int) == (p : Int)) = true := by simp [hrp]
                  have hfi : Hid (q1 = 0) := Lib.hid (by rw [hq1]; unfold hqI; rw [if_pos hrp])
                  clear hrp hq1 hq0
                  go_wp2_with fail
                  refine (HZ0.out _).mono ?_
                  rintro e w6 ⟨v, rfl, hv, hb6⟩
                  obtain ⟨t, C1, m1, l1, C2, m2, l2, rfl, hI2⟩ := hv.open
                  clear hv
                  have K9q := HB5.out.blk.belowS hb6
                  obtain ⟨W6, hW6⟩ : ∃ W6, W6 = put3o w6 g9 0 (.bool t) (.slice C1 m1 l1) (.slice C2 m2 l2) := ⟨_, rfl⟩
                  have HB6 : Hid (Bx wo g9 (htI n W p r) j (.slice Ae j ce) cs q1 t C1 m1 l1 C2 m2 l2 W6) := Lib.hid (by rw [hfi.out, hW6]; exact HB5.out.put hb6 hI2)
                  have d0 := K9q.at 0 (v := .bool s) rfl
                  have d1 := K9q.at 1 (v := .slice A1 k1 c1) rfl
                  have d2 := K9q.at 2 (v := .slice A2 k2 c2) rfl
                  have z0 := K9q.frz 0
                  have z1 := K9q.frz 1
                  have z2 := K9q.frz 2
                  unfold put3o at hW6
                  have HHW6 := Lib.hid hW6
                  clear hW6 K9q hb6 hI2 HB5 hfi
                  go_upto_region 16 with (fail)
                  rw [← HHW6.out]
                  clear HHW6 d0 d1 d2 z0 z1 z2
                case' neg =>
                  have heq := cast_ne hrp
                  have hfi : Hid (q1 = q0) := Lib.hid (by rw [hq1, hq0]; unfold hqI; rw [if_neg hrp])
                  clear hrp hq1 hq0
                  go_upto_region 16 with (fail)
                  obtain ⟨W6, hW6⟩ : ∃ zz, zz = W5 := ⟨_, rfl⟩
                  rw [← hW6] at HB5 ⊢
                  obtain ⟨t, rfl⟩ : ∃ zz, zz = s := ⟨_, rfl⟩
                  obtain ⟨C1, rfl⟩ : ∃ zz, zz = A1 := ⟨_, rfl⟩
                  obtain ⟨m1, rfl⟩ : ∃ zz, zz = k1 := ⟨_, rfl⟩
                  obtain ⟨l1, rfl⟩ : ∃ zz, zz = c1 := ⟨_, rfl⟩
                  obtain ⟨C2, rfl⟩ : ∃ zz, zz = A2 := ⟨_, rfl⟩
                  obtain ⟨m2, rfl⟩ : ∃ zz, zz = k2 := ⟨_, rfl⟩
                  obtain ⟨l2, rfl⟩ : ∃ zz, zz = c2 := ⟨_, rfl⟩
                  have HB6 : Hid (Bx wo g9 (htI n W p r) j (.slice Ae j ce) cs q1 t C1 m1 l1 C2 m2 l2 W6) := Lib.hid (by rw [hfi.out]; exact HB5.out)
                  clear hW6 HB5
                  clear hfi
                all_goals
                  have HOP := Lib.hid (ratOpp W6 HB6.out.val)
                  have y0 := HB6.out.blk.at 0 (v := .bool t) rfl
                  have y1 := HB6.out.blk.at 1 (v := .slice C1 m1 l1) rfl
                  have y2 := HB6.out.blk.at 2 (v := .slice C2 m2 l2) rfl
                  go_wp2_with fail
                  refine HOP.out.mono ?_
                  rintro e w7 h
                  obtain ⟨v, rfl, hv, hb7⟩ := h.is
                  obtain ⟨t3, D1, i1, b1, D2, i2, b2, rfl, hI3⟩ := hv.open
                  clear hv h HOP y0 y1 y2
                  have K9q := HB6.out.blk.belowS hb7
                  obtain ⟨W7, hW7⟩ : ∃ W7, W7 = put3o w7 g9 0 (.bool t3) (.slice D1 i1 b1) (.slice D2 i2 b2) := ⟨_, rfl⟩
                  have HB7 : Hid (Bx wo g9 (htI n W p r) j (.slice Ae j ce) cs q2 t3 D1 i1 b1 D2 i2 b2 W7) := Lib.hid (by rw [HQ2.out, hW7]; exact HB6.out.put hb7 hI3)
                  have d0 := K9q.at 0 (v := .bool t) rfl
                  have d1 := K9q.at 1 (v := .slice C1 m1 l1) rfl
                  have d2 := K9q.at 2 (v := .slice C2 m2 l2) rfl
                  have z0 := K9q.frz 0
                  have z1 := K9q.frz 1
                  have z2 := K9q.frz 2
                  unfold put3o at hW7
                  have HHW7 := Lib.hid hW7
                  clear hW7 K9q hb7 hI3 HB6 
                  go_upto_region 17 with (fail)
                  rw [← HHW7.out]
                  clear HHW7 d0 d1 d2 z0 z1 z2
                  by_cases hrj : r = j
                  case' pos =>
                    have heq2 : ((r : Int) == (j : Int)) = true := by simp [hrj]
                    have hfl : Hid (q3 = q2 + 1) := Lib.hid (by rw [HQ3.out, if_pos hrj])
                    have HI7 := Lib.hid HB7.out.val
                    clear hrj HQ3
                    go_upto_region 18 with (fail)
                    refine Rel.wp_region_rel 3 (by kernel_rfl) (by kernel_rfl) (fun F hF => ?_)
                    simp only [List.take_succ_cons, List.take_zero, List.drop_succ_cons, List.drop_zero, Rel.putL] at hF ⊢
                    have HF := Lib.hid hF
                    clear hF
                    have uv := @Rel.upon_value Tryz.prog
                    have ue := @Rel.upon_enter Tryz.prog
                    apply Rel.rel_pure
                    apply Exists.intro
                    refine ⟨fun vs wq hq hdp R hR => ?_, ?_⟩
                    · (rw [HF.out, Rel.stepAt_eq]; clear hdp; have y0 := (HB7.out.blk.belowS hq).at 0 (v := .bool t3) rfl; have y1 := (HB7.out.blk.belowS hq).at 1 (v := .slice D1 i1 b1) rfl; have y2 := (HB7.out.blk.belowS hq).at 2 (v := .slice D2 i2 b2) rfl; go_simp; exact hR)
                    refine Rel.rel_law (S := fun v w' => IsRt w' 1 v) (isRt_mono _) (fun vs wq hq hdp => ?_) ?_
                    · (rw [HF.out, Rel.stepAt_eq]; clear hdp; skip; go_simp; exact HZ1.out _)
                    refine Rel.rel_law (S := fun v w' => IsRt w' (q2 + 1) v) (isRt_mono _) (fun vs wq hq hdp => ?_) ?_
                    · (rw [HF.out, Rel.stepAt_eq]; have qd0 : vs 0 = _ := Rel.dep hdp 0 (by kernel_rfl); have qd1 : IsRt wq _ (vs 1) := Rel.dep hdp 1 (by kernel_rfl); clear hdp; skip; go_simp; refine (ratPlus wq (HI7.out.below hq) qd1 HSZ2.out.1 HSZ2.out.2).mono ?_; rintro e w7 h; obtain ⟨v, rfl, hv, hb⟩ := h.is; exact ⟨_, rfl, hv, hb⟩)
                    refine Rel.rel_end (fun vs wq hq hall => ?_)
                    rw [HF.out]
                    have qe0 : vs 0 = _ := Rel.fin hall 0 (by decide)
                    have qe1 : IsRt wq _ (vs 1) := Rel.fin hall 1 (by decide)
                    have qe2 : IsRt wq _ (vs 2) := Rel.fin hall 2 (by decide)
                    clear hall HF uv ue
                    obtain ⟨t4, E1, j1, a1, E2, j2, a2, ev2, hI2⟩ := qe2.open
                    have K9q := HB7.out.blk.belowS hq
                    obtain ⟨W8, hW8⟩ : ∃ W8, W8 = put3o wq g9 0 (.bool t4) (.slice E1 j1 a1) (.slice E2 j2 a2) := ⟨_, rfl⟩
                    have HB8 : Hid (Bx wo g9 (htI n W p r) j (.slice Ae j ce) cs q3 t4 E1 j1 a1 E2 j2 a2 W8) := Lib.hid (by rw [hfl.out, hW8]; exact HB7.out.put hq hI2)
                    have d0 := K9q.at 0 (v := .bool t3) rfl
                    have d1 := K9q.at 1 (v := .slice D1 i1 b1) rfl
                    have d2 := K9q.at 2 (v := .slice D2 i2 b2) rfl
                    have z0 := K9q.frz 0
                    have z1 := K9q.frz 1
                    have z2 := K9q.frz 2
                    unfold put3o at hW8
                    have HHW8 := Lib.hid hW8
                    clear hW8 K9q hq hI2 HB7 HI7 HSZ2 hfl qe0 qe1 qe2
                    go_upto_region 19 with (fail)
                    rw [← HHW8.out]
                    clear HHW8 d0 d1 d2 z0 z1 z2
                  case' neg =>
                    have heq2 := cast_ne hrj
                    have hfl : Hid (q3 = q2) := Lib.hid (by rw [HQ3.out, if_neg hrj])
                    clear hrj HQ3
                    go_upto_region 19 with (fail)
                    obtain ⟨W8, hW8⟩ : ∃ zz, zz = W7 := ⟨_, rfl⟩
                    rw [← hW8] at HB7 ⊢
                    obtain ⟨t4, rfl⟩ : ∃ zz, zz = t3 := ⟨_, rfl⟩
                    obtain ⟨E1, rfl⟩ : ∃ zz, zz = D1 := ⟨_, rfl⟩
                    obtain ⟨j1, rfl⟩ : ∃ zz, zz = i1 := ⟨_, rfl⟩
                    obtain ⟨a1, rfl⟩ : ∃ zz, zz = b1 := ⟨_, rfl⟩
                    obtain ⟨E2, rfl⟩ : ∃ zz, zz = D2 := ⟨_, rfl⟩
                    obtain ⟨j2, rfl⟩ : ∃ zz, zz = i2 := ⟨_, rfl⟩
                    obtain ⟨a2, rfl⟩ : ∃ zz, zz = b2 := ⟨_, rfl⟩
                    have HB8 : Hid (Bx wo g9 (htI n W p r) j (.slice Ae j ce) cs q3 t4 E1 j1 a1 E2 j2 a2 W8) := Lib.hid (by rw [hfl.out]; exact HB7.out)
                    clear hW8 HB7
                    clear hfl HSZ2
                all_goals
                  have y0 := HB8.out.blk.at 0 (v := .bool t4) rfl
                  have y1 := HB8.out.blk.at 1 (v := .slice E1 j1 a1) rfl
                  have y2 := HB8.out.blk.at 2 (v := .slice E2 j2 a2) rfl
                  rw [HQE.out] at HB8
                  obtain ⟨F1, f1, F2, f2, evv, d1, d2⟩ := HB8.out.val
                  injection evv with evv
                  simp only [Array.mk.injEq, List.cons.injEq, Value.slice.injEq, Value.bool.injEq, and_true] at evv
                  obtain ⟨e0, ⟨e1, e2, e3⟩, e4, e5, e6⟩ := evv
                  subst e1 e3 e4 e6
                  have HNX := Lib.hid (fun (w2 : World) v' ca tt hown hg hnu he => SoRel.next (w2 := w2) (v' := v') (A1 := E1) (A2 := E2) (c1 := a1) (c2 := a2) (ca := ca) (t := tt) hjn HB8.out.row HB8.out.nou HB8.out.bel d1 d2 hown hg hnu he)
                  unfold rt3 at HNX
                  rw [← e0, ← e2, ← e5] at HNX
                  have HOA := Lib.hid (World.ownsRow.alloc HB8.out.row.row (.cells #[.bool t4, .slice E1 j1 a1, .slice E2 j2 a2] 87))
                  have HNA := Lib.hid (HB8.out.nou.below ((Below.refl W8.heap.size W8).alloc (Nat.le_refl _) (.cells #[.bool t4, .slice E1 j1 a1, .slice E2 j2 a2] 87)))
                  have hs8 := HB8.out.bel.size
                  clear e0 e2 e5 d1 d2 HB8 HQE HQ2
                  go_wp2_with (at_builtin; refine wpList_append_noU _ rfl (.tmp 62) (.tmp 64) 89 rfl wo.heap.size 87 iw (.agg #[.bool false, .slice none 0 0, .slice none 0 0]) 3 56 Tryz.underlying89 wi wz0 wz1 wz2 rfl (by decide) _ _ _ rfl HOA.out ⟨W8.heap.size, 0, none⟩ 1 1 [.bool t4, .slice E1 j1 a1, .slice E2 j2 a2] rfl rfl ?p1a ?p2a ?p3a ?p4a ?p5a HNA.out notU_three notU_zero3 ?_)
                  try case p1a => exact news_three _ _ (by simp)
                  try case p2a => exact ones_three
                  try case p3a => first | (simp only [maxLen]; omega) | omega
                  try case p4a => omega
                  try case p5a => first | (simp only [World.size_alloc]; omega) | omega
                  intro v' w3 hown' hg' hnu' he
                  have HN3 := Lib.hid (HNX.out w3 v' _ _ hown' hg' hnu' (by rw [World.size_alloc]; exact he))
                  clear hown' hg' hnu' he HNX HOA HNA y0 y1 y2
                  go_wp2
                  go_roundw
                  case rel => exact HN3.out
                  case measure => simp [intOf]; omega
              · obtain rfl : n = j := by omega
                clear HR
                go_wp2_with fail
                refine (HZ1.out _).mono ?_
                rintro e w3 ⟨v, rfl, hv, hb3⟩
                obtain ⟨s, A1, k1, c1, A2, k2, c2, rfl, hI⟩ := hv.open
                clear hv
                go_upto_region 22 with (fail)
                obtain ⟨W5, hW5⟩ : ∃ W5, W5 = w3.alloc (.cells #[.bool s, .slice A1 k1 c1, .slice A2 k2 c2] 87) := ⟨_, rfl⟩
                rw [← hW5]
                obtain ⟨g9, hg9⟩ : ∃ g9, g9 = w3.heap.size := ⟨_, rfl⟩
                rw [← hg9]
                have HB5 : Hid (Bx wo g9 (htI n W p r) n (.slice Ae n ce) cs 1 s A1 k1 c1 A2 k2 c2 W5) := Lib.hid (by rw [hW5, hg9]; exact Bx.make HE.out HNU.out HBo.out hb3 hI)
                obtain ⟨q1, hq1⟩ : ∃ q1, q1 = htB p r := ⟨_, rfl⟩
                have HQE : Hid (q1 = htI n W p r n) := Lib.hid (by rw [hq1]; exact (ht_end n W p r).1.symm)
                clear hI hW5 hg9 hb3 HE HNU HBo
                by_cases hrp : r = p
                case' pos =>
                  have heq : ((r : Int) == (p : Int)) = true := by simp [hrp]
                  have hfi : Hid (q1 = 0) := Lib.hid (by rw [hq1]; unfold htB; rw [if_pos hrp])
                  clear hrp hq1
                  go_wp2_with fail
                  refine (HZ0.out _).mono ?_
                  rintro e w6 ⟨v, rfl, hv, hb6⟩
                  obtain ⟨t, C1, m1, l1, C2, m2, l2, rfl, hI2⟩ := hv.open
                  clear hv
                  have K9q := HB5.out.blk.belowS hb6
                  obtain ⟨W6, hW6⟩ : ∃ W6, W6 = put3o w6 g9 0 (.bool t) (.slice C1 m1 l1) (.slice C2 m2 l2) := ⟨_, rfl⟩
                  have HB6 : Hid (Bx wo g9 (htI n W p r) n (.slice Ae n ce) cs q1 t C1 m1 l1 C2 m2 l2 W6) := Lib.hid (by rw [hfi.out, hW6]; exact HB5.out.put hb6 hI2)
                  have d0 := K9q.at 0 (v := .bool s) rfl
                  have d1 := K9q.at 1 (v := .slice A1 k1 c1) rfl
                  have d2 := K9q.at 2 (v := .slice A2 k2 c2) rfl
                  have z0 := K9q.frz 0
                  have z1 := K9q.frz 1
                  have z2 := K9q.frz 2
                  unfold put3o at hW6
                  have HHW6 := Lib.hid hW6
                  clear hW6 K9q hb6 hI2 HB5 hfi
                  go_upto_region 24 with (fail)
                  rw [← HHW6.out]
                  clear HHW6 d0 d1 d2 z0 z1 z2
                case' neg =>
                  have heq := cast_ne hrp
                  have hfi : Hid (q1 = 1) := Lib.hid (by rw [hq1]; unfold htB; rw [if_neg hrp])
                  clear hrp hq1
                  go_upto_region 24 with (fail)
                  obtain ⟨W6, hW6⟩ : ∃ zz, zz = W5 := ⟨_, rfl⟩
                  rw [← hW6] at HB5 ⊢
                  obtain ⟨t, rfl⟩ : ∃ zz, zz = s := ⟨_, rfl⟩
                  obtain ⟨C1, rfl⟩ : ∃ zz, zz = A1 := ⟨_, rfl⟩
                  obtain ⟨m1, rfl⟩ : ∃ zz, zz = k1 := ⟨_, rfl⟩
                  obtain ⟨l1, rfl⟩ : ∃ zz, zz = c1 := ⟨_, rfl⟩
                  obtain ⟨C2, rfl⟩ : ∃ zz, zz = A2 := ⟨_, rfl⟩
                  obtain ⟨m2, rfl⟩ : ∃ zz, zz = k2 := ⟨_, rfl⟩
                  obtain ⟨l2, rfl⟩ : ∃ zz, zz = c2 := ⟨_, rfl⟩
                  have HB6 : Hid (Bx wo g9 (htI n W p r) n (.slice Ae n ce) cs q1 t C1 m1 l1 C2 m2 l2 W6) := Lib.hid (by rw [hfi.out]; exact HB5.out)
                  clear hW6 HB5
                  clear hfi
                all_goals
                  have y0 := HB6.out.blk.at 0 (v := .bool t) rfl
                  have y1 := HB6.out.blk.at 1 (v := .slice C1 m1 l1) rfl
                  have y2 := HB6.out.blk.at 2 (v := .slice C2 m2 l2) rfl
                  rw [HQE.out] at HB6
                  obtain ⟨F1, f1, F2, f2, evv, d1, d2⟩ := HB6.out.val
                  injection evv with evv
                  simp only [Array.mk.injEq, List.cons.injEq, Value.slice.injEq, Value.bool.injEq, and_true] at evv
                  obtain ⟨e0, ⟨e1, e2, e3⟩, e4, e5, e6⟩ := evv
                  subst e1 e3 e4 e6
                  have HNX := Lib.hid (fun (w2 : World) v' ca tt hown hg hnu he => SoRel.next (n := n + 1) (w2 := w2) (v' := v') (A1 := C1) (A2 := C2) (c1 := l1) (c2 := l2) (ca := ca) (t := tt) (Nat.lt_succ_self n) HB6.out.row HB6.out.nou HB6.out.bel d1 d2 hown hg hnu he)
                  unfold rt3 at HNX
                  rw [← e0, ← e2, ← e5] at HNX
                  have HOA := Lib.hid (World.ownsRow.alloc HB6.out.row.row (.cells #[.bool t, .slice C1 m1 l1, .slice C2 m2 l2] 87))
                  have HNA := Lib.hid (HB6.out.nou.below ((Below.refl W6.heap.size W6).alloc (Nat.le_refl _) (.cells #[.bool t, .slice C1 m1 l1, .slice C2 m2 l2] 87)))
                  have hs6 := HB6.out.bel.size
                  clear e0 e2 e5 d1 d2 HB6 HQE
                  go_wp2_with (at_builtin; refine wpList_append_noU _ rfl (.tmp 73) (.tmp 75) 89 rfl wo.heap.size 87 iw (.agg #[.bool false, .slice none 0 0, .slice none 0 0]) 3 56 Tryz.underlying89 wi wz0 wz1 wz2 rfl (by decide) _ _ _ rfl HOA.out ⟨W6.heap.size, 0, none⟩ 1 1 [.bool t, .slice C1 m1 l1, .slice C2 m2 l2] rfl rfl ?p1b ?p2b ?p3b ?p4b ?p5b HNA.out notU_three notU_zero3 ?_)
                  try case p1b => exact news_three _ _ (by simp)
                  try case p2b => exact ones_three
                  try case p3b => first | (simp only [maxLen]; omega) | omega
                  try case p4b => omega
                  try case p5b => first | (simp only [World.size_alloc]; omega) | omega
                  intro v' w4 hown' hg' hnu' he
                  obtain ⟨j2, cs', ej, hj2, HE4, HNU4, HB4⟩ := HNX.out w4 v' _ _ hown' hg' hnu' (by rw [World.size_alloc]; exact he)
                  obtain rfl : n + 1 = j2 := by injection ej with _ ej; omega
                  clear hown' hg' hnu' he HNX HOA HNA ej hj2 y0 y1 y2
                  obtain ⟨Ar, cr, rfl, hAr⟩ := HE4.out.form
                  obtain ⟨gr, rfl, hgr, _⟩ := hAr (Nat.succ_pos n)
                  obtain ⟨cur, hcur⟩ := HE4.out.toG
                  have HP := Lib.hid (fun (w2 : World) v'' ca tt hown hg hnu => OwnRG.push (w2 := w2) (v' := v'') (c := cr) (ca := ca) (t := tt) HO.out HB4.out hcur hgr HB.out.size hown hg hnu)
                  have HOB := Lib.hid (World.ownsRow.alloc (ownsRow_below HO.out.row HB4.out) (.cells #[.slice (some ⟨gr, 0, none⟩) (n + 1) cr] 89))
                  have HNB := Lib.hid ((HO.out.nou.below HB4.out).below ((Below.refl w4.heap.size w4).alloc (Nat.le_refl _) (.cells #[.slice (some ⟨gr, 0, none⟩) (n + 1) cr] 89)))
                  have HBB := Lib.hid (fun (w2 : World) (hg : (w4.alloc (.cells #[.slice (some ⟨gr, 0, none⟩) (n + 1) cr] 89)).grownBy w2 (Value.slice Al r cl).ownBlock) => (below_next (Nat.le_refl _) HB.out (HB4.out.alloc HB4.out.size _)).trans (grown_below hg (fun g e => (ownsRow_block HO.out.row e).choose_spec.2.1) (Nat.le_trans HB.out.size (HB4.out.alloc HB4.out.size _).size)))
                  have hs4 := HB4.out.size
                  clear hgr hcur HE4 HNU4 HB4 HB HO
                  go_wp2_with (at_builtin; refine wpList_append_noU _ rfl (.tmp 72) (.tmp 77) 112 rfl w4b.heap.size 89 ir (.slice none 0 0) 1 24 Tryz.underlying112 ri rz0 rz1 rz2 rfl (by decide) _ _ _ rfl HOB.out ⟨w4.heap.size, 0, none⟩ 1 1 [.slice (some ⟨gr, 0, none⟩) (n + 1) cr] rfl rfl ?p1c ?p2c ?p3c ?p4c ?p5c HNB.out notU_one notU_zero1 ?_)
                  try case p1c => exact news_one _ _ _ (by simp)
                  try case p2c => first | exact one_slice | (intro u hu; simp at hu; subst hu; rfl)
                  try case p3c => first | (simp only [maxLen]; omega) | omega
                  try case p4c => omega
                  try case p5c => first | (simp only [World.size_alloc]; omega) | omega
                  intro v'' w5 hown' hg' hnu' _
                  have HN5 : Hid (HtRel n p W w4b (.int .i64 ((r : Int) + 1)) v'' w5) := Lib.hid ⟨r + 1, _, by simp, hrn, Lib.hid (HP.out w5 v'' _ _ hown' hg' hnu'), Lib.hid (HBB.out w5 hg')⟩
                  clear hown' hg' hnu' HP HOB HNB HBB
                  go_wp2
                  go_roundw
                  case rel => exact HN5.out
                  case measure => simp [intOf]; omega
          · obtain rfl : n = r := by omega
            obtain ⟨gL, rfl, _, _⟩ := hAl (by omega)
            obtain ⟨gs, cp, cm, css, hmat⟩ := HO.out.mat
            have HSV := Lib.hid (solved_any (cL := cl) wr hmat hn1 hn6 (.inl rfl) HO.out.cap HB.out.size HD.out)
            have HW4 := Lib.hid (Base.Below.nextA HW3.out HB.out)
            clear hmat HO HB HD hAl HSZ HX HZ0 HZ1
            go_wp2_with fail
            refine HSV.out.mono ?_
            rintro e w7 ⟨v, cs, rfl, ho, hb7⟩
            rw [HSB.out]
            have HW7 := Lib.hid (HW4.out.trans (hb7.mono (HW3.out.size)))
            have hs4 := HW4.out.size
            cases hsb : solB (htS n W p) n n with
            | false =>
              have HEE := Lib.hid (ht_no (n := n) (L := L) (fs := fs) (t := (p : Int)) (by unfold htV; rw [HVB.out, HPB.out, Int.toNat_natCast, HRB.out, ← HWD.out, hsb]; rfl))
              have HBZ := Lib.hid (Base.Below.nextA HB0.out HW7.out)
              clear hsb ho hb7 HW4 HW7 HSV
              go_wp2
              go_ret2
              rw [HEE.out.1, HEE.out.2.1, HEE.out.2.2]
              exact FsRet.no HBZ.out
            | true =>
              have HEE := Lib.hid (ht_yes (n := n) (L := L) (fs := fs) (t := (p : Int)) (by unfold htV; rw [HVB.out, HPB.out, Int.toNat_natCast, HRB.out, ← HWD.out, hsb]; rfl))
              have hsn : sN (htI n W p) n n = n := by
                unfold sN
                rw [HSB.out, hsb, if_pos rfl]
              rw [hsn] at ho
              obtain ⟨A4, c4, rfl, _⟩ := ho.form
              have hcg := give_congr (n := n) (fun j hj => HSX.out j hj)
              have HF := Lib.hid (fractions_any (c := c4) w7 ho.rd (show n ≤ 1000 by omega))
              rw [hcg.1, hcg.2.1, hcg.2.2, ← HEE.out.1, ← HEE.out.2.1, ← HEE.out.2.2] at HF
              clear hsb ho hb7 HSV hsn hcg
              go_wp2_with fail
              refine HF.out.mono ?_
              rintro e w8 ⟨A6, c6, rfl, ho6, hb6⟩
              have HO := Lib.hid (And.intro ho6 (Base.Below.nextA HB0.out (Base.Below.nextA HW7.out hb6)))
              have hs7 : w.heap.size ≤ w7.heap.size := Nat.le_trans HB0.out.size HW7.out.size
              clear ho6 hb6
              go_wp2
              go_ret2
              exact ⟨A6, c6, rfl, ownsRow_base HO.out.1 hs7, HO.out.2⟩
end Go.Proofs.YtionognmgcabbaaGreat.Ratio
/- The reference's small fractions: products. -/
namespace Go.Proofs.YtionognmgcabbaaGreat.Fine
open Go.RowKit Go.Proofs.YtionognmgcabbaaGreat Go.Proofs.YtionognmgcabbaaGreat.Base Go.Proofs.YtionognmgcabbaaGreat.Mem Go.Proofs.YtionognmgcabbaaGreat.RatM Go.Proofs.YtionognmgcabbaaGreat.Two Go.Proofs.YtionognmgcabbaaGreat.Blk
set_option linter.unusedVariables false
/-- the rational of a result, if it is small -/
def FRet (q : Rat) (w : World) (e : Ending) (w' : World) : Prop := e = .returned (.tuple #[.agg #[.int .i64 (numQ q), .int .i64 (denQ q)], .bool (smallQ q)]) ∧ Below w.heap.size w w'
theorem mul_parts {n1 d1 n2 d2 : Int} (h1 : VF n1 d1) (h2 : VF n2 d2) :
    ∃ N1 N2 : Int, ∃ D1 D2 : Nat, lowV n1 d2.toNat = .agg #[.int .i64 N1, .int .i64 (D2 : Int)] ∧ lowV n2 d1.toNat = .agg #[.int .i64 N2, .int .i64 (D1 : Int)] ∧
      -1000000000000000000 ≤ N1 ∧ N1 ≤ 1000000000000000000 ∧ -1000000000000000000 ≤ N2 ∧ N2 ≤ 1000000000000000000 ∧ D1 ≤ 1000000000000000000 ∧ D2 ≤ 1000000000000000000 ∧
      (qf n1 d1 * qf n2 d2).num.natAbs = N1.natAbs * N2.natAbs ∧ (qf n1 d1 * qf n2 d2).den = D2 * D1 ∧
      (decide (N1 < 0) = decide (N2 < 0) → (qf n1 d1 * qf n2 d2).num = ((N1.natAbs * N2.natAbs : Nat) : Int)) ∧ (decide (N1 < 0) ≠ decide (N2 < 0) → (qf n1 d1 * qf n2 d2).num = -((N1.natAbs * N2.natAbs : Nat) : Int)) := by
  obtain ⟨a1, a2, a3, a4, a5⟩ := h1
  obtain ⟨b1, b2, b3, b4, b5⟩ := h2
  have hd1 : 0 < d1.toNat := by omega
  have hd2 : 0 < d2.toNat := by omega
  have p1 : 0 < Nat.gcd n1.natAbs d2.toNat := Nat.gcd_pos_of_pos_right _ hd2
  have p2 : 0 < Nat.gcd n2.natAbs d1.toNat := Nat.gcd_pos_of_pos_right _ hd1
  obtain ⟨_, q1, s1⟩ := exact_div (Nat.gcd_dvd_left n1.natAbs d2.toNat) p1
  obtain ⟨_, q2, s2⟩ := exact_div (Nat.gcd_dvd_left n2.natAbs d1.toNat) p2
  have hc := prod_cop hd1 hd2 a5 b5
  have hv := prod_val (decide (n1 < 0) != decide (n2 < 0)) (n1 := n1.natAbs) (n2 := n2.natAbs) hd1 hd2
  have hm := qv_mul (decide (n1 < 0)) (decide (n2 < 0)) (n := n1.natAbs) (n' := n2.natAbs) (d := d1.toNat) (d' := d2.toNat) (by omega) (by omega)
  have hne : d2.toNat / Nat.gcd n1.natAbs d2.toNat * (d1.toNat / Nat.gcd n2.natAbs d1.toNat) ≠ 0 := by
    refine Nat.mul_ne_zero ?_ ?_
    · exact Nat.ne_of_gt (Nat.div_pos (Nat.gcd_le_right _ hd2) p1)
    · exact Nat.ne_of_gt (Nat.div_pos (Nat.gcd_le_right _ hd1) p2)
  have e : qf n1 d1 * qf n2 d2 = qv (decide (n1 < 0) != decide (n2 < 0)) (n1.natAbs / Nat.gcd n1.natAbs d2.toNat * (n2.natAbs / Nat.gcd n2.natAbs d1.toNat)) (d2.toNat / Nat.gcd n1.natAbs d2.toNat * (d1.toNat / Nat.gcd n2.natAbs d1.toNat)) := by
    rw [hv, hm]; rfl
  obtain ⟨l1, l2⟩ := low_of (s := decide (n1 < 0) != decide (n2 < 0)) hne hc
  have l0 := (own_num (s := decide (n1 < 0) != decide (n2 < 0)) hne hc).1
  refine ⟨_, _, d1.toNat / Nat.gcd n2.natAbs d1.toNat, d2.toNat / Nat.gcd n1.natAbs d2.toNat, rfl, rfl, ?_, ?_, ?_, ?_, ?_, ?_, ?_, ?_, ?_, ?_⟩
  · have := Nat.div_le_self n1.natAbs (Nat.gcd n1.natAbs d2.toNat); omega
  · have := Nat.div_le_self n1.natAbs (Nat.gcd n1.natAbs d2.toNat); omega
  · have := Nat.div_le_self n2.natAbs (Nat.gcd n2.natAbs d1.toNat); omega
  · have := Nat.div_le_self n2.natAbs (Nat.gcd n2.natAbs d1.toNat); omega
  · have := Nat.div_le_self d1.toNat (Nat.gcd n2.natAbs d1.toNat); omega
  · have := Nat.div_le_self d2.toNat (Nat.gcd n1.natAbs d2.toNat); omega
  · rw [e, l0, q1, q2]
  · rw [e, l2]
  · intro hs
    rw [e, l1, q1, q2]
    simp only [s1, s2] at hs
    rw [hs, bne_self_eq_false]; rfl
  · intro hs
    rw [e, l1, q1, q2]
    simp only [s1, s2] at hs
    have : (decide (n1 < 0) != decide (n2 < 0)) = true := by simpa using hs
    rw [this]; rfl
theorem smallE (t : Nat) : ∃ (i : Int) (b : Bool), b = decide (t ≤ 1000000000000000000) ∧ (b = true → i = (t : Int)) ∧ Hid (∀ w, Calls Tryz.prog 170 #[two t] w fun e w' => e = .returned (.tuple #[.int .i64 i, .bool b]) ∧ Below w.heap.size w w') :=
  ⟨_, _, rfl, fun h => by rw [if_pos (of_decide_eq_true h)], Lib.hid (fun w => small_any t w)⟩
set_option maxHeartbeats 4000000 in
set_option maxRecDepth 100000 in
theorem fMul_any {n1 d1 n2 d2 : Int} (h1 : VF n1 d1) (h2 : VF n2 d2) (w : World) : Calls Tryz.prog 132 #[.agg #[.int .i64 n1, .int .i64 d1], .agg #[.int .i64 n2, .int .i64 d2]] w (FRet (qf n1 d1 * qf n2 d2) w) := by
  obtain ⟨N1, N2, D1, D2, ea, eb, r1, r2, r3, r4, r5, r6, hnum, hden, hsame, hdiff⟩ := mul_parts h1 h2
  have HM1 := Lib.hid (fun W => fMakeG n1 d2.toNat h1.2.2.1 h1.2.2.2.1 (by have := h2.1; omega) (by have := h2.2.1; omega) W)
  have HM2 := Lib.hid (fun W => fMakeG n2 d1.toNat h2.2.2.1 h2.2.2.2.1 (by have := h1.1; omega) (by have := h1.2.1; omega) W)
  rw [ea, show ((d2.toNat : Nat) : Int) = d2 by have := h2.1; omega] at HM1
  rw [eb, show ((d1.toNat : Nat) : Int) = d1 by have := h1.1; omega] at HM2
  have HX1 := Lib.hid (fun W => maxG N1 r1 r2 W)
  have HX2 := Lib.hid (fun W => maxG N2 r3 r4 W)
  have HT1 := Lib.hid (fun W => times_any N1.natAbs N2.natAbs (by omega) (by omega) W)
  have HT2 := Lib.hid (fun W => times_any D2 D1 r6 r5 W)
  obtain ⟨i1, b1, f1, f2, HS1⟩ := smallE (N1.natAbs * N2.natAbs)
  obtain ⟨i2, b2, f3, f4, HS2⟩ := smallE (D2 * D1)
  rw [← hnum] at HT1 HS1 f1 f2
  rw [← hden] at HT2 HS2 f3 f4
  have hend : (b1 = false ∨ b2 = false → smallQ (qf n1 d1 * qf n2 d2) = false ∧ numQ (qf n1 d1 * qf n2 d2) = 0 ∧ denQ (qf n1 d1 * qf n2 d2) = 0) ∧ (b1 = true → b2 = true → smallQ (qf n1 d1 * qf n2 d2) = true ∧ (decide (N1 < 0) = decide (N2 < 0) → numQ (qf n1 d1 * qf n2 d2) = i1) ∧ (decide (N1 < 0) ≠ decide (N2 < 0) → numQ (qf n1 d1 * qf n2 d2) = -i1) ∧ denQ (qf n1 d1 * qf n2 d2) = i2 ∧ 0 ≤ i1 ∧ i1 ≤ 1000000000000000000) := by
    refine ⟨fun h => small_no ?_, fun e1 e2 => ?_⟩
    · rcases h with h | h
      · rw [f1] at h; exact .inl (of_decide_eq_false h)
      · rw [f3] at h; exact .inr (of_decide_eq_false h)
    · have k1 := f2 e1
      have k2 := f4 e2
      rw [f1] at e1
      rw [f3] at e2
      obtain ⟨g1, g2, g3⟩ := small_yes (of_decide_eq_true e1) (of_decide_eq_true e2)
      have := of_decide_eq_true e1
      refine ⟨g1, fun hs => ?_, fun hs => ?_, by rw [g3, k2], by omega, by omega⟩
      · rw [g2, hsame hs, k1, hnum]
      · rw [g2, hdiff hs, k1, hnum]
  have HEnd := Lib.hid hend
  clear f1 f2 f3 f4 hend
  have g1 : -1000000000000000000 ≤ n1 ∧ n1 ≤ 1000000000000000000 := ⟨h1.2.2.1, h1.2.2.2.1⟩
  clear h1 h2 ea eb hnum hden hsame hdiff
  generalize qf n1 d1 * qf n2 d2 = q at *
  generalize N1.natAbs = A1 at *
  generalize N2.natAbs = A2 at *
  obtain ⟨W3, hW3⟩ : ∃ W3, W3 = ((w.alloc (.cells #[.int .i64 n1, .int .i64 d1] 43)).alloc (.cells #[.int .i64 n2, .int .i64 d2] 43)).alloc (.cells #[.int .i64 0, .int .i64 0] 43) := ⟨_, rfl⟩
  have K0 : Hid (Blk W3 w.heap.size 43 #[.int .i64 n1, .int .i64 d1]) := Lib.hid (by rw [hW3]; exact ((Blk.new w _ _).alloc _).alloc _)
  have K1 : Hid (Blk W3 (w.heap.size + 1) 43 #[.int .i64 n2, .int .i64 d2]) := Lib.hid (by rw [hW3]; exact (Blk.newAt _ _ (by simp)).alloc _)
  have KR : Hid (Blk W3 (w.heap.size + 1 + 1) 43 #[.int .i64 0, .int .i64 0]) := Lib.hid (by rw [hW3]; exact Blk.newAt _ _ (by simp))
  have HB : Hid (Below w.heap.size w W3) := Lib.hid (by rw [hW3]; exact (((Below.refl _ _).alloc (Nat.le_refl _) _).alloc (by simp) _).alloc (by simp; omega) _)
  have HW := Lib.hid hW3
  clear hW3
  go_enter Tryz.func132, Tryz.ntmps132
  go_wp2_with fail
  rw [← HW.out]
  refine (HM1.out _).mono ?_
  rintro e w1 ⟨rfl, hb1⟩
  have K0a := K0.out.belowS hb1
  have K1a := K1.out.belowS hb1
  have KRa := KR.out.belowS hb1
  have HBa := Lib.hid (Base.Below.nextA HB.out hb1)
  have x0 := K1a.at 0 (v := .int .i64 n2) rfl
  have x1 := K0a.at 1 (v := .int .i64 d1) rfl
  have hz1 : w.heap.size + 1 < w1.heap.size := K1a.lt
  have hz0 : w.heap.size < w1.heap.size := K0a.lt
  have KK := Lib.hid (And.intro K0a (And.intro K1a KRa))
  clear hb1 K0a K1a KRa K0 K1 KR HB HW
  go_wp2_with fail
  obtain ⟨W4, hW4⟩ : ∃ W4, W4 = w1.alloc (.cells #[.int .i64 N1, .int .i64 (D2 : Int)] 43) := ⟨_, rfl⟩
  rw [← hW4]
  have K0 : Hid (Blk W4 w.heap.size 43 #[.int .i64 n1, .int .i64 d1]) := Lib.hid (by rw [hW4]; exact KK.out.1.alloc _)
  have K1 : Hid (Blk W4 (w.heap.size + 1) 43 #[.int .i64 n2, .int .i64 d2]) := Lib.hid (by rw [hW4]; exact KK.out.2.1.alloc _)
  have KR : Hid (Blk W4 (w.heap.size + 1 + 1) 43 #[.int .i64 0, .int .i64 0]) := Lib.hid (by rw [hW4]; exact KK.out.2.2.alloc _)
  have KA : Hid (Blk W4 w1.heap.size 43 #[.int .i64 N1, .int .i64 (D2 : Int)]) := Lib.hid (by rw [hW4]; exact Blk.new w1 _ _)
  have HB : Hid (Below w.heap.size w W4) := Lib.hid (by rw [hW4]; exact HBa.out.alloc HBa.out.size _)
  have hz4 : w1.heap.size < W4.heap.size := KA.out.lt
  clear hW4 KK HBa x0 x1
  refine (HM2.out _).mono ?_
  rintro e w2 ⟨rfl, hb2⟩
  obtain ⟨W5, hW5⟩ : ∃ W5, W5 = w2.alloc (.cells #[.int .i64 N2, .int .i64 (D1 : Int)] 43) := ⟨_, rfl⟩
  have KR5 : Hid (Blk W5 (w.heap.size + 1 + 1) 43 #[.int .i64 0, .int .i64 0]) := Lib.hid (by rw [hW5]; exact (KR.out.belowS hb2).alloc _)
  have KA5 : Hid (Blk W5 w1.heap.size 43 #[.int .i64 N1, .int .i64 (D2 : Int)]) := Lib.hid (by rw [hW5]; exact (KA.out.belowS hb2).alloc _)
  have KB5 : Hid (Blk W5 w2.heap.size 43 #[.int .i64 N2, .int .i64 (D1 : Int)]) := Lib.hid (by rw [hW5]; exact Blk.new w2 _ _)
  have HB5 : Hid (Below w.heap.size w W5) := Lib.hid (by
    have := Base.Below.nextA HB.out hb2
    rw [hW5]; exact this.alloc this.size _)
  have HW5 := Lib.hid hW5
  clear hW5 hb2 K0 K1 KR KA HB
  go_wp2_with fail
  rw [← HW5.out]
  have hlw : w.heap.size + 1 + 1 < W5.heap.size := KR5.out.lt
  have hlA : w1.heap.size < W5.heap.size := KA5.out.lt
  have hlB : w2.heap.size < W5.heap.size := KB5.out.lt
  clear HW5
  unfold two at HT1 HS1 HT2 HS2
  have hn1 : IntKind.i64.wrap (-N1) = -N1 := by rw [IntKind.wrap_i64]; omega
  have hn2 : IntKind.i64.wrap (-N2) = -N2 := by rw [IntKind.wrap_i64]; omega
  (refine wp_region_below (by kernel_rfl) (by kernel_rfl) ?_; (repeat (refine wpQuiet_step (fun K hK => ?_); go_simp; first | (refine hK _ ?_; clear hK K) | (apply Exists.intro; refine ⟨fun wq hq => ?_, hK _ ?_⟩; (first | rfl | (have x0 := (KA5.out.belowS hq).at 0 (v := .int .i64 N1) rfl; have x1 := (KB5.out.belowS hq).at 0 (v := .int .i64 N2) rfl; first | (go_simp; done) | (go_simp; rfl) | (first | (go_at_call 133; refine (HX1.out _).mono ?_; rintro e w7 ⟨rfl, rfl⟩; exact ⟨rfl, hq⟩) | (go_at_call 133; refine (HX2.out _).mono ?_; rintro e w7 ⟨rfl, rfl⟩; exact ⟨rfl, hq⟩) | (go_at_call 171; refine (HT1.out _).mono ?_; rintro e w7 ⟨rfl, hb7⟩; exact ⟨rfl, Base.Below.nextA hq hb7⟩) | (go_at_call 170; refine (HS1.out _).mono ?_; rintro e w7 ⟨rfl, hb7⟩; exact ⟨rfl, Base.Below.nextA hq hb7⟩)))); clear hK K))); refine wpQuiet_nil ?_; intro wq hq)
  have KAq := KA5.out.belowS hq
  have KBq := KB5.out.belowS hq
  have KRq := KR5.out.belowS hq
  have HBq := Lib.hid (Base.Below.nextA HB5.out hq)
  have x0 := KAq.at 1 (v := .int .i64 (D2 : Int)) rfl
  have x1 := KBq.at 1 (v := .int .i64 (D1 : Int)) rfl
  have KK := Lib.hid (And.intro KAq (And.intro KBq KRq))
  clear KAq KBq KRq hq KA5 KB5 KR5 HB5 HM1 HM2 HX1 HX2 HT1 HS1 hn1 hn2
  go_wp2_with fail
  refine (HT2.out _).mono ?_
  rintro e w8 ⟨rfl, hb8⟩
  have HB8 := Lib.hid hb8
  clear hb8
  go_wp2_with fail
  refine (HS2.out _).mono ?_
  rintro e w9 ⟨rfl, hb9⟩
  have hb := Base.Below.nextA HB8.out hb9
  have KA9 := KK.out.1.belowS hb
  have KB9 := KK.out.2.1.belowS hb
  have KR9 := KK.out.2.2.belowS hb
  have HB9 := Lib.hid (Base.Below.nextA HBq.out hb)
  have y0 := KA9.at 0 (v := .int .i64 N1) rfl
  have y1 := KB9.at 0 (v := .int .i64 N2) rfl
  have z0 := KR9.frz 0
  have z1 := KR9.frz 1
  have c0 := KR9.at 0 (v := .int .i64 0) rfl
  have c1 := KR9.at 1 (v := .int .i64 0) rfl
  have KR := Lib.hid KR9
  clear x0 x1 KK hb hb9 HB8 HBq HT2 HS2 KA9 KB9 KR9
  cases b1 with
  | false =>
    have HE := Lib.hid (HEnd.out.1 (.inl rfl))
    clear HEnd
    have S := (KR.out.setTo 0 (.int .i64 0) rfl).setTo 1 (.int .i64 0) rfl
    have s0 := S.at 0 rfl
    have s1 := S.at 1 rfl
    cases b2 <;>
    · go_wp2
      refine bodyPost_ret (v := .tuple #[.agg #[.int .i64 0, .int .i64 0], .bool false]) (by simp [results, Tryz.results132, go_sem, s0, s1]) rfl ⟨by rw [HE.out.1, HE.out.2.1, HE.out.2.2], (HB9.out.setCell (by simp; omega) _).setCell (by simp; omega) _⟩
  | true =>
    cases b2 with
    | false =>
      have HE := Lib.hid (HEnd.out.1 (.inr rfl))
      clear HEnd
      have S := (KR.out.setTo 0 (.int .i64 0) rfl).setTo 1 (.int .i64 0) rfl
      have s0 := S.at 0 rfl
      have s1 := S.at 1 rfl
      go_wp2
      refine bodyPost_ret (v := .tuple #[.agg #[.int .i64 0, .int .i64 0], .bool false]) (by simp [results, Tryz.results132, go_sem, s0, s1]) rfl ⟨by rw [HE.out.1, HE.out.2.1, HE.out.2.2], (HB9.out.setCell (by simp; omega) _).setCell (by simp; omega) _⟩
    | true =>
      obtain ⟨e1, hs, hd, e2, k0, k1⟩ := HEnd.out.2 rfl rfl
      have HE := Lib.hid (And.intro e1 (And.intro e2 (And.intro hs hd)))
      clear HEnd e1 e2 hs hd
      have hneg : decide (N1 < 0) = false ∨ decide (N1 < 0) = true := by cases decide (N1 < 0) <;> simp
      have hneg2 : decide (N2 < 0) = false ∨ decide (N2 < 0) = true := by cases decide (N2 < 0) <;> simp
      rcases hneg with g1 | g1 <;> rcases hneg2 with g2 | g2
      · have HQ := Lib.hid (HE.out.2.2.1 (by rw [g1, g2]))
        have S := (KR.out.setTo 0 (.int .i64 i1) rfl).setTo 1 (.int .i64 i2) rfl
        have s0 := S.at 0 rfl
        have s1 := S.at 1 rfl
        go_wp2
        refine bodyPost_ret (v := .tuple #[.agg #[.int .i64 i1, .int .i64 i2], .bool true]) (by simp [results, Tryz.results132, go_sem, s0, s1]) rfl ⟨by rw [HE.out.1, HE.out.2.1, HQ.out], (HB9.out.setCell (by simp; omega) _).setCell (by simp; omega) _⟩
      · have HQ := Lib.hid (HE.out.2.2.2 (by rw [g1, g2]; decide))
        have S := (KR.out.setTo 0 (.int .i64 (-i1)) rfl).setTo 1 (.int .i64 i2) rfl
        have s0 := S.at 0 rfl
        have s1 := S.at 1 rfl
        go_wp2
        refine bodyPost_ret (v := .tuple #[.agg #[.int .i64 (-i1), .int .i64 i2], .bool true]) (by simp [results, Tryz.results132, go_sem, s0, s1]) rfl ⟨by rw [HE.out.1, HE.out.2.1, HQ.out], (HB9.out.setCell (by simp; omega) _).setCell (by simp; omega) _⟩
      · have HQ := Lib.hid (HE.out.2.2.2 (by rw [g1, g2]; decide))
        have S := (KR.out.setTo 0 (.int .i64 (-i1)) rfl).setTo 1 (.int .i64 i2) rfl
        have s0 := S.at 0 rfl
        have s1 := S.at 1 rfl
        go_wp2
        refine bodyPost_ret (v := .tuple #[.agg #[.int .i64 (-i1), .int .i64 i2], .bool true]) (by simp [results, Tryz.results132, go_sem, s0, s1]) rfl ⟨by rw [HE.out.1, HE.out.2.1, HQ.out], (HB9.out.setCell (by simp; omega) _).setCell (by simp; omega) _⟩
      · have HQ := Lib.hid (HE.out.2.2.1 (by rw [g1, g2]))
        have S := (KR.out.setTo 0 (.int .i64 i1) rfl).setTo 1 (.int .i64 i2) rfl
        have s0 := S.at 0 rfl
        have s1 := S.at 1 rfl
        go_wp2
        refine bodyPost_ret (v := .tuple #[.agg #[.int .i64 i1, .int .i64 i2], .bool true]) (by simp [results, Tryz.results132, go_sem, s0, s1]) rfl ⟨by rw [HE.out.1, HE.out.2.1, HQ.out], (HB9.out.setCell (by simp; omega) _).setCell (by simp; omega) _⟩
end Go.Proofs.YtionognmgcabbaaGreat.Fine

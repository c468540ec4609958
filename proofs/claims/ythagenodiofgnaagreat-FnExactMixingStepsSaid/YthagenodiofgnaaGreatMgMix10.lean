/- The program: linear equations are solved. -/
import Derived.Test.YthagenodiofgnaaGreatMgMix09
namespace Go.Proofs.YthagenodiofgnaaGreat.Ratio
open Go.RowKit Go.Proofs.YthagenodiofgnaaGreat Go.Proofs.YthagenodiofgnaaGreat.Base Go.Proofs.YthagenodiofgnaaGreat.Mem Go.Proofs.YthagenodiofgnaaGreat.NatM Go.Proofs.YthagenodiofgnaaGreat.Nat32 Go.Proofs.YthagenodiofgnaaGreat.RatM Go.Proofs.YthagenodiofgnaaGreat.Blk Go.Proofs.YthagenodiofgnaaGreat.MemF Go.Proofs.YthagenodiofgnaaGreat.ChM Go.Proofs.YthagenodiofgnaaGreat.GaussM
open Go.Proofs.YthagenodiofgnaaGreat.Inv (natOf natOf_eq len_pos Rat3 not_slice not_bool frz)
set_option linter.unusedVariables false
def mE : Nat → Nat
 | 0 => 4
 | k + 1 => 4 * mE k + 1
theorem mE_le {k : Nat} (h : k ≤ 5) : mE k ≤ 4437 := by
 have : k = 0 ∨ k = 1 ∨ k = 2 ∨ k = 3 ∨ k = 4 ∨ k = 5 := by omega
 rcases this with rfl | rfl | rfl | rfl | rfl | rfl <;> decide
theorem pow_next (m : Nat) : 2 * (B32 ^ m * (B32 ^ m * (B32 ^ m * B32 ^ m))) ≤ B32 ^ (4 * m + 1) := by
 have e : B32 ^ (4 * m + 1) = B32 * (B32 ^ m * (B32 ^ m * (B32 ^ m * B32 ^ m))) := by
  rw [Nat.pow_succ, Nat.mul_comm _ B32, show 4 * m = m + (m + (m + m)) by omega, Nat.pow_add, Nat.pow_add, Nat.pow_add]
 rw [e]
 exact Nat.mul_le_mul_right _ (by decide)
theorem Stg.more {M0 M : Nat → Nat → Rat} {R n k P Q : Nat} (h : Stg M0 M R n k P) (hPQ : P ≤ Q) : Stg M0 M R n k Q := ⟨h.sol, h.unit, fun r c hr hc => (h.dg r c hr hc).more hPQ⟩
noncomputable def sN (M : Nat → Nat → Rat) (R n : Nat) : Nat := if solB M R n then n else 0
def SvRet (B : Nat) (M : Nat → Nat → Rat) (R n : Nat) (w : World) (e : Ending) (w' : World) : Prop := ∃ v cs, e = .returned (.tuple #[v, .bool (solB M R n)]) ∧ OwnR w' w.heap.size v (sN M R n) (solX M R n) cs ∧ Below B w w'
theorem sv_no {B : Nat} {M : Nat → Nat → Rat} {R n : Nat} {w w' : World} (h : ∀ x, ¬ Only M R n x) (hb : Below B w w') : SvRet B M R n w (.returned (.tuple #[.slice none 0 0, .bool false])) w' := by
 have h1 := sol_no h
 refine ⟨.slice none 0 0, [], by rw [h1], ?_, hb⟩
 unfold sN
 rw [h1]
 exact OwnR.nil _ _ _
theorem sv_yes {B : Nat} {M : Nat → Nat → Rat} {R n : Nat} {w w' : World} {x : Nat → Rat} {v : Value} {cs : List Value} (h : Only M R n x) (ho : OwnR w' w.heap.size v n x cs) (hb : Below B w w') : SvRet B M R n w (.returned (.tuple #[v, .bool true])) w' := by
 obtain ⟨h1, h2⟩ := sol_yes h
 refine ⟨v, cs, by rw [h1], ?_, hb⟩
 unfold sN
 rw [h1, if_pos rfl]
 exact ho.congr fun i hi => (h2 i hi).symm
def SvRel (B gL R n : Nat) (M0 : Nat → Nat → Rat) (w : World) (dv kv : Value) (wr : World) : Prop :=
 ∃ (k : Nat) (M : Nat → Nat → Rat) (gs cp : Nat → Nat) (cl : Array Value) (css : Nat → Array Value), dv = .int .i64 (k : Int) ∧ kv = .int .i64 (k : Int) ∧ k ≤ n ∧ Hid (Stg M0 M R n k (B32 ^ mE k)) ∧ Hid (MatR wr B gL R (n + 1) M gs cp cl css) ∧ Hid (Below B w wr)
def SfRel (B gL R n k : Nat) (M : Nat → Nat → Rat) (gs cp : Nat → Nat) (cl : Array Value) (css : Nat → Array Value) (w : World) (iv : Value) (wr : World) : Prop :=
 ∃ i : Nat, iv = .int .i64 (i : Int) ∧ k ≤ i ∧ i ≤ R ∧ Hid (∀ r, k ≤ r → r < i → M r k = 0) ∧ Hid (MatR wr B gL R (n + 1) M gs cp cl css) ∧ Hid (Below B w wr)
def ScRel (B gL R n k : Nat) (S : Nat → Nat → Rat) (gs cp : Nat → Nat) (cl : Array Value) (g9 : Nat) (s : Bool) (A1 : Option Addr) (k1 c1 : Nat) (A2 : Option Addr) (k2 c2 : Nat) (w : World) (cv : Value) (wr : World) : Prop :=
 ∃ (c : Nat) (css : Nat → Array Value), cv = .int .i64 (c : Int) ∧ c ≤ n + 1 ∧ Hid (MatR wr B gL R (n + 1) (scP S k 0 c (S k k)⁻¹) gs cp cl css) ∧ Hid (Blk wr g9 82 #[.bool s, .slice A1 k1 c1, .slice A2 k2 c2]) ∧ Hid (IsRt wr (S k k) (.agg #[.bool s, .slice A1 k1 c1, .slice A2 k2 c2])) ∧ Hid (Below B w wr)
def ClRel (B gL R n k : Nat) (T : Nat → Nat → Rat) (gs cp : Nat → Nat) (cl : Array Value) (w : World) (rv : Value) (wr : World) : Prop :=
 ∃ (r : Nat) (css : Nat → Array Value), rv = .int .i64 (r : Int) ∧ r ≤ R ∧ Hid (MatR wr B gL R (n + 1) (clP T k 0 r 0) gs cp cl css) ∧ Hid (Below B w wr)
def CiRel (B gL R n k r : Nat) (T : Nat → Nat → Rat) (gs cp : Nat → Nat) (cl : Array Value) (g9 : Nat) (s : Bool) (A1 : Option Addr) (k1 c1 : Nat) (A2 : Option Addr) (k2 c2 : Nat) (w : World) (cv : Value) (wr : World) : Prop :=
 ∃ (c : Nat) (css : Nat → Array Value), cv = .int .i64 (c : Int) ∧ c ≤ n + 1 ∧ Hid (MatR wr B gL R (n + 1) (clP T k 0 r c) gs cp cl css) ∧ Hid (Blk wr g9 82 #[.bool s, .slice A1 k1 c1, .slice A2 k2 c2]) ∧ Hid (IsRt wr (T r k) (.agg #[.bool s, .slice A1 k1 c1, .slice A2 k2 c2])) ∧ Hid (Below B w wr)
def SoRel (n : Nat) (f : Nat → Rat) (wo : World) (kv ov : Value) (wr : World) : Prop :=
 ∃ (j : Nat) (cs : List Value), kv = .int .i64 (j : Int) ∧ j ≤ n ∧ Hid (OwnR wr wo.heap.size ov j f cs) ∧ Hid (NoU wr ov) ∧ Hid (Below wo.heap.size wo wr)
theorem SoRel.next {n j : Nat} {f : Nat → Rat} {wo wr w2 : World} {v v' : Value} {cs : List Value} {A1 A2 : Option Addr} {c1 c2 : Nat} {ca : Array Value} {t : TypeId} (hj : j < n) (h : OwnR wr wo.heap.size v j f cs) (hn : NoU wr v) (hb : Below wo.heap.size wo wr) (d1 : RdU wr wr.heap.size A1 (natL (f j).num.natAbs)) (d2 : RdU wr wr.heap.size A2 (natL (f j).den))
  (hown : w2.ownsRow wo.heap.size 82 3 v' (j + 1) (cs ++ rt3 (f j) A1 A2 c1 c2)) (hg : (wr.alloc (.cells ca t)).grownBy w2 v.ownBlock) (hnu : NoU w2 v') (he : v'.ownBlock = v.ownBlock ∨ v'.ownBlock = some (wr.alloc (.cells ca t)).heap.size) : SoRel n f wo (.int .i64 ((j : Int) + 1)) v' w2 := by
 have hb1 : Below wr.heap.size wr (wr.alloc (.cells ca t)) := (Below.refl _ _).alloc (Nat.le_refl _) _
 refine ⟨j + 1, _, by simp, hj, Lib.hid (h.push (Below.refl _ _) d1 d2 (fun h0 => hn.apart d1 h0) (fun h0 => hn.apart d2 h0) hown hg he), Lib.hid hnu, Lib.hid ?_⟩
 exact (hb.trans (hb1.mono hb.size)).trans (grown_below hg (fun g e => (ownsRow_block h.row e).choose_spec.2.1) (Nat.le_trans hb.size hb1.size))
theorem below_next {B : Nat} {w w1 w2 : World} (hB : B ≤ w.heap.size) (h : Below B w w1) (h2 : Below w1.heap.size w1 w2) : Below B w w2 := h.trans (h2.mono (Nat.le_trans hB h.size))
theorem cast_ne {a b : Nat} (h : a ≠ b) : ((a : Int) == (b : Int)) = false := by simp; omega
set_option maxHeartbeats 4000000 in
set_option maxRecDepth 100000 in
theorem solved_any {B gL R n cL : Nat} {M0 : Nat → Nat → Rat} {gs0 cp0 : Nat → Nat} {cl0 : Array Value} {css0 : Nat → Array Value} (w : World) (hM : MatR w B gL R (n + 1) M0 gs0 cp0 cl0 css0) (h1 : 1 ≤ n) (h6 : n ≤ 6) (hR : R = n ∨ R = n + 1) (hcL : R ≤ cL) (hB : B ≤ w.heap.size) (hdg : ∀ r c, r < R → c ≤ n → Dg (B32 ^ 4) (M0 r c)) :
    Calls Tryz.prog 61 #[.slice (some ⟨gL, 0, none⟩) R cL, .int .i64 (n : Int)] w (SvRet B M0 R n w) := by
  have hnR : n ≤ R := by omega
  have hR7 : R ≤ 7 := by omega
  have H0 : Hid (SvRel B gL R n M0 w (.int .i64 0) (.int .i64 0) w) := Lib.hid ⟨0, M0, gs0, cp0, cl0, css0, rfl, rfl, Nat.zero_le _, Lib.hid (Stg.start hdg), Lib.hid hM, Lib.hid (Below.refl _ _)⟩
  clear hM hdg
  have HR := Lib.hid hR
  clear hR
  go_enter Tryz.func61, Tryz.ntmps61
  go_wp2
  go_loopw [6, 19] (fun dv kv wr => SvRel B gL R n M0 w dv kv wr) (fun _ kv _ => n - (intOf kv).toNat)
  case atStart => exact H0.out
  case round =>
    obtain ⟨k, M, gs, cp, cl, css, rfl, rfl, hk, HS, HMr, HB⟩ := hrel
    clear H0
    by_cases hkn : k < n
    · have H1 : Hid (SfRel B gL R n k M gs cp cl css w (.int .i64 (k : Int)) wr) := Lib.hid ⟨k, rfl, Nat.le_refl _, by omega, Lib.hid (fun r h1 h2 => by omega), HMr, HB⟩
      clear HMr HB
      go_wp2
      go_loopw [8] (fun iv w2 => SfRel B gL R n k M gs cp cl css w iv w2) (fun iv _ => R - (intOf iv).toNat)
      case atStart => exact H1.out
      case round =>
        obtain ⟨i, rfl, hki, hi, HZ, HMr, HB⟩ := hrel
        clear H1
        by_cases hiR : i < R
        · obtain ⟨s, A1, k1, c1, A2, k2, c2, x0, x1, x2, hI⟩ := HMr.out.at hiR (show k < n + 1 by omega)
          have y := HMr.out.top.at i (HMr.out.cell i hiR)
          have hrb := (HMr.out.row i hiR).blk
          have x0 := hrb.at (k * 3) x0
          have x1 := hrb.at (k * 3 + 1) x1
          have x2 := hrb.at (k * 3 + 2) x2
          have HQ := Lib.hid (ratZero wr hI)
          clear hrb hI
          by_cases hz : M i k = 0
          · rw [decide_eq_true hz] at HQ
            have HN0 := Lib.hid (fun W (hb : Below wr.heap.size wr W) => show SfRel B gL R n k M gs cp cl css w (.int .i64 ((i : Int) + 1)) W from ⟨i + 1, by simp, by omega, hiR, Lib.hid (fun r h1 h2 => if e : r = i then by rw [e]; exact hz else HZ.out r h1 (by omega)), Lib.hid (HMr.out.below hb), Lib.hid (below_next hB HB.out hb)⟩)
            clear hz HMr HB HZ
            go_wp2_with fail
            refine HQ.out.mono ?_
            rintro e w3 ⟨rfl, hb3⟩
            have HN := Lib.hid (HN0.out w3 hb3)
            clear hb3 HN0 HQ
            go_wp2
            go_roundw
            case rel => exact HN.out
            case measure => simp [intOf]; omega
          · rw [decide_eq_false hz] at HQ
            go_wp2_with fail
            refine HQ.out.mono ?_
            rintro e w3 ⟨rfl, hb3⟩
            have HM3 := Lib.hid (HMr.out.below hb3)
            have HB3 := Lib.hid (below_next hB HB.out hb3)
            have heq := cast_ne (show i ≠ R by omega)
            clear hb3 HQ HMr HB HZ x0 x1 x2 y
            go_upto_region 10 with (fail)
            have hkR : k < R := by omega
            have HSW := Lib.hid (HM3.out.swap hiR hkR)
            have HBL := Lib.hid (And.intro HM3.out.lowL HB3.out)
            have y0 := HM3.out.top.at k (HM3.out.cell k hkR)
            have y1 := HM3.out.top.at i (HM3.out.cell i hiR)
            have y2 := HM3.out.mid hiR hkR
            have z0 := HM3.out.top.frz k
            have z1 := HM3.out.top.frz i
            clear HM3 HB3
            generalize hgk : gs k = gk at *
            generalize hgi : gs i = gi at *
            generalize hck : cp k = ck at *
            generalize hci : cp i = ci at *
            have HGS := Lib.hid (And.intro hgk (And.intro hgi (And.intro hck hci)))
            have HNZ := Lib.hid hz
            clear hgk hgi hck hci hz
            go_region
            clear y0 y1 y2 z0 z1
            obtain ⟨W4, hW4⟩ : ∃ W4, W4 = ((w3.setCell ⟨gL, i, none⟩ (.slice (some ⟨gk, 0, none⟩) (n + 1) ck)).setCell ⟨gL, k, none⟩ (.slice (some ⟨gi, 0, none⟩) (n + 1) ci)).drew := ⟨_, rfl⟩
            rw [← hW4]
            obtain ⟨clS, hsw⟩ := HSW.out
            have HM4 : Hid (MatR W4 B gL R (n + 1) (swapM M i k) (swF gs i k) (swF cp i k) clS (swF css i k)) := Lib.hid (by rw [hW4]; exact hsw.below ((Below.refl _ _).drew))
            have HB4 : Hid (Below B w W4) := Lib.hid (by rw [hW4]; exact ((HBL.out.2.setCell (p := ⟨gL, i, none⟩) HBL.out.1 _).setCell (p := ⟨gL, k, none⟩) HBL.out.1 _).drew)
            have HNX := Lib.hid (fun (M' : Nat → Nat → Rat) => HS.out.next hki hiR hkR (by omega) HNZ.out)
            have hSk : Hid (swapM M i k k k ≠ 0) := Lib.hid (by unfold swapM; rw [if_pos rfl]; exact HNZ.out)
            have hSt : Hid (∀ r c, stageM M i k r c = clearM (scaleM (swapM M i k) k (swapM M i k k k)⁻¹) k r c) := Lib.hid (by intro r c; unfold stageM; rw [show swapM M i k k k = M i k by unfold swapM; rw [if_pos rfl]])
            have HSD := Lib.hid (swap_dg hiR hkR HS.out.dg)
            have hm := mE_le (show k ≤ 5 by omega)
            have HSZ : Hid (∀ r c, r < R → c ≤ n → szR (swapM M i k r c) ≤ 2 * mE k) := Lib.hid (fun r c hr hc => dgb_sz (HSD.out r c hr hc))
            clear hsw hW4 HSW HBL HGS heq
            generalize hS : swapM M i k = S at *
            generalize swF gs i k = gs1 at *
            generalize swF cp i k = cp1 at *
            generalize swF css i k = css1 at *
            clear hS
            obtain ⟨s, A1, k1, c1, A2, k2, c2, x0, x1, x2, hI⟩ := HM4.out.at hkR (show k < n + 1 by omega)
            have y := HM4.out.top.at k (HM4.out.cell k hkR)
            have hrb := (HM4.out.row k hkR).blk
            have x0 := hrb.at (k * 3) x0
            have x1 := hrb.at (k * 3 + 1) x1
            have x2 := hrb.at (k * 3 + 2) x2
            have HI4 := Lib.hid hI
            clear hrb hI
            go_upto_region 12 with (fail)
            obtain ⟨W5, hW5⟩ : ∃ W5, W5 = W4.alloc (.cells #[.bool s, .slice A1 k1 c1, .slice A2 k2 c2] 82) := ⟨_, rfl⟩
            rw [← hW5]
            obtain ⟨g9, hg9⟩ : ∃ g9, g9 = W4.heap.size := ⟨_, rfl⟩
            rw [← hg9]
            have hb5 : Below W4.heap.size W4 W5 := by rw [hW5]; exact (Below.refl _ _).alloc (Nat.le_refl _) _
            have K9 : Hid (Blk W5 g9 82 #[.bool s, .slice A1 k1 c1, .slice A2 k2 c2]) := Lib.hid (by rw [hW5, hg9]; exact Blk.new W4 _ _)
            have hB9 : B ≤ g9 := by rw [hg9]; exact Nat.le_trans hB HB4.out.size
            have HN9 := Lib.hid (fun r (hr : r < R) => show g9 ≠ gs1 r by have := (HM4.out.row r hr).blk.lt; omega)
            have H5 : Hid (ScRel B gL R n k S gs1 cp1 clS g9 s A1 k1 c1 A2 k2 c2 w (.int .i64 0) W5) := Lib.hid ⟨0, css1, rfl, Nat.zero_le _, Lib.hid ((HM4.out.below hb5).congr fun r c hr hc => (sc_start S k 0 _ r c).symm), K9, Lib.hid (HI4.out.below hb5), Lib.hid (below_next hB HB4.out hb5)⟩
            have y := (HM4.out.below hb5).top.at k (HM4.out.cell k hkR)
            clear x0 x1 x2 hg9 hW5 hb5 K9 HM4 HB4 HI4
            go_wp2
            go_loopw [69] (fun cv w2 => ScRel B gL R n k S gs1 cp1 clS g9 s A1 k1 c1 A2 k2 c2 w cv w2) (fun cv _ => n + 1 - (intOf cv).toNat)
            case atStart => exact H5.out
            case round =>
              obtain ⟨c, css, rfl, hc, HMr, K9, HI9, HB⟩ := hrel
              clear H5 y
              by_cases hcn : c < n + 1
              · obtain ⟨s', B1, j1, d1, B2, j2, d2, hx0, hx1, hx2, hI⟩ := HMr.out.at hkR hcn
                rw [sc_at] at hI
                have HI := Lib.hid hI
                have HRB := Lib.hid (HMr.out.row k hkR).blk
                have HSTEP := Lib.hid (fun r c2 => sc_step S (k := k) (c' := c) (S k k)⁻¹ (Nat.zero_le c) r c2)
                have HZ : Hid (szR (S k c) ≤ 200000 ∧ szR (S k k) ≤ 200000 ∧ S k k ≠ 0) := Lib.hid ⟨by have := HSZ.out k c hkR (by omega); omega, by have := HSZ.out k k hkR (by omega); omega, hSk.out⟩
                have hgB := HMr.out.low k hkR
                clear hI
                generalize hq0 : S k c = q0 at *
                generalize hp0 : S k k = p0 at *
                have HQ0 := Lib.hid (And.intro hq0 hp0)
                clear hq0 hp0
                go_upto_region 15 with (fail)
                refine Rel.wp_region_rel 15 (by kernel_rfl) (by kernel_rfl) (fun F hF => ?_)
                simp only [List.take_succ_cons, List.take_zero, List.drop_succ_cons, List.drop_zero, Rel.putL] at hF ⊢
                have HF := Lib.hid hF
                clear hF
                have uv := @Rel.upon_value Tryz.prog
                have ue := @Rel.upon_enter Tryz.prog
                apply Rel.rel_pure
                apply Exists.intro
                refine ⟨fun vs wq hq hdp R hR => ?_, ?_⟩
                · (rw [HF.out, Rel.stepAt_eq]; clear hdp; skip; go_simp; exact hR)
                apply Rel.rel_pure
                apply Exists.intro
                refine ⟨fun vs wq hq hdp R hR => ?_, ?_⟩
                · (rw [HF.out, Rel.stepAt_eq]; clear hdp; skip; go_simp; exact hR)
                apply Rel.rel_pure
                apply Exists.intro
                refine ⟨fun vs wq hq hdp R hR => ?_, ?_⟩
                · (rw [HF.out, Rel.stepAt_eq]; have qd0 : vs 0 = _ := Rel.dep hdp 0 (by kernel_rfl); have qd1 : vs 1 = _ := Rel.dep hdp 1 (by kernel_rfl); clear hdp; skip; go_simp; exact hR)
                apply Rel.rel_pure
                apply Exists.intro
                refine ⟨fun vs wq hq hdp R hR => ?_, ?_⟩
                · (rw [HF.out, Rel.stepAt_eq]; have qd2 : vs 2 = _ := Rel.dep hdp 2 (by kernel_rfl); clear hdp; have y := (HMr.out.below hq).top.at k (HMr.out.cell k hkR); go_simp; exact hR)
                apply Rel.rel_pure
                apply Exists.intro
                refine ⟨fun vs wq hq hdp R hR => ?_, ?_⟩
                · (rw [HF.out, Rel.stepAt_eq]; clear hdp; skip; go_simp; exact hR)
                apply Rel.rel_pure
                apply Exists.intro
                refine ⟨fun vs wq hq hdp R hR => ?_, ?_⟩
                · (rw [HF.out, Rel.stepAt_eq]; clear hdp; skip; go_simp; exact hR)
                apply Rel.rel_pure
                apply Exists.intro
                refine ⟨fun vs wq hq hdp R hR => ?_, ?_⟩
                · (rw [HF.out, Rel.stepAt_eq]; clear hdp; skip; go_simp; exact hR)
                apply Rel.rel_pure
                apply Exists.intro
                refine ⟨fun vs wq hq hdp R hR => ?_, ?_⟩
                · (rw [HF.out, Rel.stepAt_eq]; have qd5 : vs 5 = _ := Rel.dep hdp 5 (by kernel_rfl); have qd6 : vs 6 = _ := Rel.dep hdp 6 (by kernel_rfl); clear hdp; skip; go_simp; exact hR)
                apply Rel.rel_pure
                apply Exists.intro
                refine ⟨fun vs wq hq hdp R hR => ?_, ?_⟩
                · (rw [HF.out, Rel.stepAt_eq]; have qd7 : vs 7 = _ := Rel.dep hdp 7 (by kernel_rfl); clear hdp; have y := (HMr.out.below hq).top.at k (HMr.out.cell k hkR); go_simp; exact hR)
                apply Rel.rel_pure
                apply Exists.intro
                refine ⟨fun vs wq hq hdp R hR => ?_, ?_⟩
                · (rw [HF.out, Rel.stepAt_eq]; clear hdp; skip; go_simp; exact hR)
                apply Rel.rel_pure
                apply Exists.intro
                refine ⟨fun vs wq hq hdp R hR => ?_, ?_⟩
                · (rw [HF.out, Rel.stepAt_eq]; have qd8 : vs 8 = _ := Rel.dep hdp 8 (by kernel_rfl); have qd9 : vs 9 = _ := Rel.dep hdp 9 (by kernel_rfl); clear hdp; skip; go_simp; exact hR)
                apply Rel.rel_pure
                apply Exists.intro
                refine ⟨fun vs wq hq hdp R hR => ?_, ?_⟩
                · (rw [HF.out, Rel.stepAt_eq]; have qd10 : vs 10 = _ := Rel.dep hdp 10 (by kernel_rfl); clear hdp; have x0 := (HRB.out.belowS hq).at (c * 3) hx0; have x1 := (HRB.out.belowS hq).at (c * 3 + 1) hx1; have x2 := (HRB.out.belowS hq).at (c * 3 + 2) hx2; go_simp; exact hR)
                apply Rel.rel_pure
                apply Exists.intro
                refine ⟨fun vs wq hq hdp R hR => ?_, ?_⟩
                · (rw [HF.out, Rel.stepAt_eq]; clear hdp; have y0 := (K9.out.belowS hq).at 0 (v := .bool s) rfl; have y1 := (K9.out.belowS hq).at 1 (v := .slice A1 k1 c1) rfl; have y2 := (K9.out.belowS hq).at 2 (v := .slice A2 k2 c2) rfl; go_simp; exact hR)
                refine Rel.rel_law (S := fun v w' => IsRt w' (q0 * p0⁻¹) v) (isRt_mono _) (fun vs wq hq hdp => ?_) ?_
                · (rw [HF.out, Rel.stepAt_eq]; have qd11 : vs 11 = _ := Rel.dep hdp 11 (by kernel_rfl); have qd12 : vs 12 = _ := Rel.dep hdp 12 (by kernel_rfl); clear hdp; skip; go_simp; refine (ratOver wq (HI.out.below hq) (HI9.out.below hq) HZ.out.1 HZ.out.2.1 HZ.out.2.2).mono ?_; rintro e w7 h; obtain ⟨v, rfl, hv, hb⟩ := h.is; exact ⟨_, rfl, hv, hb⟩)
                apply Rel.rel_pure
                apply Exists.intro
                refine ⟨fun vs wq hq hdp R hR => ?_, ?_⟩
                · (rw [HF.out, Rel.stepAt_eq]; have qd3 : vs 3 = _ := Rel.dep hdp 3 (by kernel_rfl); have qd4 : vs 4 = _ := Rel.dep hdp 4 (by kernel_rfl); clear hdp; skip; go_simp; exact hR)
                refine Rel.rel_end (fun vs wq hq hall => ?_)
                rw [HF.out]
                have qe0 : vs 0 = _ := Rel.fin hall 0 (by decide)
                have qe1 : vs 1 = _ := Rel.fin hall 1 (by decide)
                have qe2 : vs 2 = _ := Rel.fin hall 2 (by decide)
                have qe3 : vs 3 = _ := Rel.fin hall 3 (by decide)
                have qe4 : vs 4 = _ := Rel.fin hall 4 (by decide)
                have qe5 : vs 5 = _ := Rel.fin hall 5 (by decide)
                have qe6 : vs 6 = _ := Rel.fin hall 6 (by decide)
                have qe7 : vs 7 = _ := Rel.fin hall 7 (by decide)
                have qe8 : vs 8 = _ := Rel.fin hall 8 (by decide)
                have qe9 : vs 9 = _ := Rel.fin hall 9 (by decide)
                have qe10 : vs 10 = _ := Rel.fin hall 10 (by decide)
                have qe11 : vs 11 = _ := Rel.fin hall 11 (by decide)
                have qe12 : vs 12 = _ := Rel.fin hall 12 (by decide)
                have qe13 : IsRt wq _ (vs 13) := Rel.fin hall 13 (by decide)
                have qe14 : vs 14 = _ := Rel.fin hall 14 (by decide)
                clear hall HF uv ue
                obtain ⟨t, C1, m1, l1, C2, m2, l2, ev2, hI2⟩ := qe13.open
                have HMq := HMr.out.below hq
                have HRq := (HMq.row k hkR).blk
                obtain ⟨css', hput⟩ := HMq.put hkR hcn hI2
                have HN2 : Hid (ScRel B gL R n k S gs1 cp1 clS g9 s A1 k1 c1 A2 k2 c2 w (.int .i64 ((c : Int) + 1)) (put3o wq (gs1 k) (c * 3) (.bool t) (.slice C1 m1 l1) (.slice C2 m2 l2))) := Lib.hid
                  ⟨c + 1, css', by simp, by omega, Lib.hid (hput.congr fun r c2 _ _ => by rw [HQ0.out.2]; exact HSTEP.out r c2), Lib.hid (blk_put3o (K9.out.belowS hq) (fun e => HN9.out k hkR e.symm) _ _ _), Lib.hid (by rw [HQ0.out.2]; exact isRt_put3o (HI9.out.below hq) HRq hx0 hx1 hx2 _ _ _), Lib.hid (put3o_below (below_next hB HB.out hq) hgB _ _ _)⟩
                have z0 := HRq.frz (c * 3)
                have z1 := HRq.frz (c * 3 + 1)
                have z2 := HRq.frz (c * 3 + 2)
                have d0 := HRq.at (c * 3) hx0
                have d1 := HRq.at (c * 3 + 1) hx1
                have d2 := HRq.at (c * 3 + 2) hx2
                unfold put3o at HN2
                clear HRq HMq hput hI2 hq hx0 hx1 hx2 HMr K9 HI HI9 HB HZ HSTEP HRB HQ0 qe0 qe1 qe2 qe3 qe4 qe5 qe6 qe7 qe8 qe9 qe10 qe11 qe12 qe13
                go_wp2
                go_roundw
                case rel => exact HN2.out
                case measure => simp [intOf]; omega
              · have hcE : n + 1 ≤ c := by omega
                have H6 : Hid (ClRel B gL R n k (scaleM S k (S k k)⁻¹) gs1 cp1 clS w (.int .i64 0) wr) := Lib.hid ⟨0, css, rfl, Nat.zero_le _, Lib.hid (HMr.out.congr fun r c2 hr hc => (sc_end (n := c) (fun c h => absurd h (Nat.not_lt_zero c)) (by omega)).trans (cl_start _ k 0 r c2).symm), HB⟩
                clear HMr K9 HI9 HB
                have hTK : ∀ c, c ≤ n → Dg (B32 ^ (mE k + mE k)) (scaleM S k (S k k)⁻¹ k c) := fun c hc => by
                  unfold scaleM
                  rw [if_pos rfl]
                  exact dgb_mul (HSD.out k c hkR hc) ((HSD.out k k hkR (by omega)).inv hSk.out)
                have hTO : ∀ r c, r < R → c ≤ n → r ≠ k → Dg (B32 ^ mE k) (scaleM S k (S k k)⁻¹ r c) := fun r c hr hc e => by
                  unfold scaleM
                  rw [if_neg e]
                  exact HSD.out r c hr hc
                have HTZ : Hid (∀ r c, r < R → c ≤ n → r ≠ k → szR (scaleM S k (S k k)⁻¹ r k) ≤ 200000 ∧ szR (scaleM S k (S k k)⁻¹ k c) ≤ 200000 ∧ szR (scaleM S k (S k k)⁻¹ r c) ≤ 200000 ∧ szR (scaleM S k (S k k)⁻¹ r k * scaleM S k (S k k)⁻¹ k c) ≤ 200000) := Lib.hid (fun r c hr hc e => by
                  have q1 := dgb_sz (hTO r k hr (by omega) e)
                  have q2 := dgb_sz (hTK c hc)
                  have q3 := dgb_sz (hTO r c hr hc e)
                  have q4 := dgb_sz (dgb_mul (hTO r k hr (by omega) e) (hTK c hc))
                  omega)
                clear hTK hTO
                generalize hT : scaleM S k (S k k)⁻¹ = T at *
                have HT := Lib.hid hT
                clear hT
                go_wp2
                go_loopw [90] (fun rv w2 => ClRel B gL R n k T gs1 cp1 clS w rv w2) (fun rv _ => R - (intOf rv).toNat)
                case atStart => exact H6.out
                case round =>
                  obtain ⟨r, css, rfl, hr, HMr, HB⟩ := hrel
                  clear H6
                  by_cases hrR : r < R
                  · obtain ⟨s, A1, k1, c1, A2, k2, c2, x0, x1, x2, hI⟩ := HMr.out.at hrR (show k < n + 1 by omega)
                    rw [cl_at T k 0 r 0 (Nat.zero_le k)] at hI
                    have y := HMr.out.top.at r (HMr.out.cell r hrR)
                    have hrb := (HMr.out.row r hrR).blk
                    have x0 := hrb.at (k * 3) x0
                    have x1 := hrb.at (k * 3 + 1) x1
                    have x2 := hrb.at (k * 3 + 2) x2
                    have HI4 := Lib.hid hI
                    clear hrb hI
                    go_upto_region 21 with (fail)
                    obtain ⟨W5, hW5⟩ : ∃ W5, W5 = wr.alloc (.cells #[.bool s, .slice A1 k1 c1, .slice A2 k2 c2] 82) := ⟨_, rfl⟩
                    rw [← hW5]
                    obtain ⟨g12, hg12⟩ : ∃ g12, g12 = wr.heap.size := ⟨_, rfl⟩
                    rw [← hg12]
                    have hb5 : Below wr.heap.size wr W5 := by rw [hW5]; exact (Below.refl _ _).alloc (Nat.le_refl _) _
                    have K5 : Hid (Blk W5 g12 82 #[.bool s, .slice A1 k1 c1, .slice A2 k2 c2]) := Lib.hid (by rw [hW5, hg12]; exact Blk.new wr _ _)
                    have HN12 := Lib.hid (fun r (hr : r < R) => show g12 ≠ gs1 r by have := (HMr.out.row r hr).blk.lt; omega)
                    have HM5 := Lib.hid (HMr.out.below hb5)
                    have HB5 := Lib.hid (below_next hB HB.out hb5)
                    have HI5 := Lib.hid (HI4.out.below hb5)
                    clear x0 x1 x2 y hg12 hW5 hb5 HMr HB HI4
                    by_cases hrk : r = k
                    · have HN : Hid (ClRel B gL R n k T gs1 cp1 clS w (.int .i64 ((r : Int) + 1)) W5) := Lib.hid ⟨r + 1, css, by simp, hrR, Lib.hid (HM5.out.congr fun r' c _ _ => cl_skip T (.inl hrk) r' c), HB5⟩
                      have heq : ((r : Int) == (k : Int)) = true := by simp [hrk]
                      clear hrk HM5 HB5 HI5 K5 HN12
                      go_wp2
                      go_roundw
                      case rel => exact HN.out
                      case measure => simp [intOf]; omega
                    · have heq := cast_ne hrk
                      have x0 := K5.out.at 0 (v := .bool s) rfl
                      have x1 := K5.out.at 1 (v := .slice A1 k1 c1) rfl
                      have x2 := K5.out.at 2 (v := .slice A2 k2 c2) rfl
                      have HQ := Lib.hid (ratZero W5 HI5.out)
                      have HRK := Lib.hid hrk
                      clear hrk
                      by_cases hz : T r k = 0
                      · rw [decide_eq_true hz] at HQ
                        have HN0 := Lib.hid (fun W (hb : Below W5.heap.size W5 W) => show ClRel B gL R n k T gs1 cp1 clS w (.int .i64 ((r : Int) + 1)) W from ⟨r + 1, css, by simp, hrR, Lib.hid ((HM5.out.below hb).congr fun r' c _ _ => cl_skip T (.inr hz) r' c), Lib.hid (below_next hB HB5.out hb)⟩)
                        clear hz HM5 HB5 HI5 K5 HN12
                        go_wp2_with fail
                        refine HQ.out.mono ?_
                        rintro e w6 ⟨rfl, hb6⟩
                        have HN := Lib.hid (HN0.out w6 hb6)
                        clear hb6 HN0 HQ
                        go_wp2
                        go_roundw
                        case rel => exact HN.out
                        case measure => simp [intOf]; omega
                      · rw [decide_eq_false hz] at HQ
                        clear hz
                        go_wp2_with fail
                        refine HQ.out.mono ?_
                        rintro e w6 ⟨rfl, hb6⟩
                        have H7 : Hid (CiRel B gL R n k r T gs1 cp1 clS g12 s A1 k1 c1 A2 k2 c2 w (.int .i64 0) w6) := Lib.hid ⟨0, css, rfl, Nat.zero_le _, Lib.hid (HM5.out.below hb6), Lib.hid (K5.out.belowS hb6), Lib.hid (HI5.out.below hb6), Lib.hid (below_next hB HB5.out hb6)⟩
                        have y := (HM5.out.below hb6).top.at r (HM5.out.cell r hrR)
                        clear x0 x1 x2 HM5 HB5 HI5 K5 hb6 HQ heq
                        go_wp2
                        go_loopw [112] (fun cv w2 => CiRel B gL R n k r T gs1 cp1 clS g12 s A1 k1 c1 A2 k2 c2 w cv w2) (fun cv _ => n + 1 - (intOf cv).toNat)
                        case atStart => exact H7.out
                        case round =>
                          obtain ⟨c, css, rfl, hc, HMr, K9, HI9, HB⟩ := hrel
                          clear H7 y
                          by_cases hcn : c < n + 1
                          · obtain ⟨s', B1, j1, d1, B2, j2, d2, hx0, hx1, hx2, hI⟩ := HMr.out.at hrR hcn
                            obtain ⟨s'', D1, i1, b1, D2, i2, b2, hk0, hk1, hk2, hK⟩ := HMr.out.at hkR hcn
                            rw [cl_at T k 0 r c (Nat.le_refl c)] at hI
                            rw [cl_row] at hK
                            have HI := Lib.hid hI
                            have HK := Lib.hid hK
                            have HRB := Lib.hid (HMr.out.row r hrR).blk
                            have HKB := Lib.hid (HMr.out.row k hkR).blk
                            have HSTEP := Lib.hid (fun r' c2 => cl_step T (k := k) (c' := c) HRK.out (Nat.zero_le c) r' c2)
                            have HZ := Lib.hid (HTZ.out r c hrR (by omega) HRK.out)
                            have hgB := HMr.out.low r hrR
                            clear hI hK
                            generalize hq0 : T r c = q0 at *
                            generalize hp0 : T k c = p0 at *
                            generalize hf0 : T r k = f0 at *
                            have HQ0 := Lib.hid (And.intro hq0 (And.intro hp0 hf0))
                            clear hq0 hp0 hf0
                            go_upto_region 25 with (fail)
                            refine Rel.wp_region_rel 23 (by kernel_rfl) (by kernel_rfl) (fun F hF => ?_)
                            simp only [List.take_succ_cons, List.take_zero, List.drop_succ_cons, List.drop_zero, Rel.putL] at hF ⊢
                            have HF := Lib.hid hF
                            clear hF
                            have uv := @Rel.upon_value Tryz.prog
                            have ue := @Rel.upon_enter Tryz.prog
                            apply Rel.rel_pure
                            apply Exists.intro
                            refine ⟨fun vs wq hq hdp R hR => ?_, ?_⟩
                            · (rw [HF.out, Rel.stepAt_eq]; clear hdp; skip; go_simp; exact hR)
                            apply Rel.rel_pure
                            apply Exists.intro
                            refine ⟨fun vs wq hq hdp R hR => ?_, ?_⟩
                            · (rw [HF.out, Rel.stepAt_eq]; clear hdp; skip; go_simp; exact hR)
                            apply Rel.rel_pure
                            apply Exists.intro
                            refine ⟨fun vs wq hq hdp R hR => ?_, ?_⟩
                            · (rw [HF.out, Rel.stepAt_eq]; have qd0 : vs 0 = _ := Rel.dep hdp 0 (by kernel_rfl); have qd1 : vs 1 = _ := Rel.dep hdp 1 (by kernel_rfl); clear hdp; skip; go_simp; exact hR)
                            apply Rel.rel_pure
                            apply Exists.intro
                            refine ⟨fun vs wq hq hdp R hR => ?_, ?_⟩
                            · (rw [HF.out, Rel.stepAt_eq]; have qd2 : vs 2 = _ := Rel.dep hdp 2 (by kernel_rfl); clear hdp; have y := (HMr.out.below hq).top.at r (HMr.out.cell r hrR); go_simp; exact hR)
                            apply Rel.rel_pure
                            apply Exists.intro
                            refine ⟨fun vs wq hq hdp R hR => ?_, ?_⟩
                            · (rw [HF.out, Rel.stepAt_eq]; clear hdp; skip; go_simp; exact hR)
                            apply Rel.rel_pure
                            apply Exists.intro
                            refine ⟨fun vs wq hq hdp R hR => ?_, ?_⟩
                            · (rw [HF.out, Rel.stepAt_eq]; clear hdp; skip; go_simp; exact hR)
                            apply Rel.rel_pure
                            apply Exists.intro
                            refine ⟨fun vs wq hq hdp R hR => ?_, ?_⟩
                            · (rw [HF.out, Rel.stepAt_eq]; clear hdp; skip; go_simp; exact hR)
                            apply Rel.rel_pure
                            apply Exists.intro
                            refine ⟨fun vs wq hq hdp R hR => ?_, ?_⟩
                            · (rw [HF.out, Rel.stepAt_eq]; have qd5 : vs 5 = _ := Rel.dep hdp 5 (by kernel_rfl); have qd6 : vs 6 = _ := Rel.dep hdp 6 (by kernel_rfl); clear hdp; skip; go_simp; exact hR)
                            apply Rel.rel_pure
                            apply Exists.intro
                            refine ⟨fun vs wq hq hdp R hR => ?_, ?_⟩
                            · (rw [HF.out, Rel.stepAt_eq]; have qd7 : vs 7 = _ := Rel.dep hdp 7 (by kernel_rfl); clear hdp; have y := (HMr.out.below hq).top.at r (HMr.out.cell r hrR); go_simp; exact hR)
                            apply Rel.rel_pure
                            apply Exists.intro
                            refine ⟨fun vs wq hq hdp R hR => ?_, ?_⟩
                            · (rw [HF.out, Rel.stepAt_eq]; clear hdp; skip; go_simp; exact hR)
                            apply Rel.rel_pure
                            apply Exists.intro
                            refine ⟨fun vs wq hq hdp R hR => ?_, ?_⟩
                            · (rw [HF.out, Rel.stepAt_eq]; have qd8 : vs 8 = _ := Rel.dep hdp 8 (by kernel_rfl); have qd9 : vs 9 = _ := Rel.dep hdp 9 (by kernel_rfl); clear hdp; skip; go_simp; exact hR)
                            apply Rel.rel_pure
                            apply Exists.intro
                            refine ⟨fun vs wq hq hdp R hR => ?_, ?_⟩
                            · (rw [HF.out, Rel.stepAt_eq]; have qd10 : vs 10 = _ := Rel.dep hdp 10 (by kernel_rfl); clear hdp; have x0 := (HRB.out.belowS hq).at (c * 3) hx0; have x1 := (HRB.out.belowS hq).at (c * 3 + 1) hx1; have x2 := (HRB.out.belowS hq).at (c * 3 + 2) hx2; go_simp; exact hR)
                            apply Rel.rel_pure
                            apply Exists.intro
                            refine ⟨fun vs wq hq hdp R hR => ?_, ?_⟩
                            · (rw [HF.out, Rel.stepAt_eq]; clear hdp; have y0 := (K9.out.belowS hq).at 0 (v := .bool s) rfl; have y1 := (K9.out.belowS hq).at 1 (v := .slice A1 k1 c1) rfl; have y2 := (K9.out.belowS hq).at 2 (v := .slice A2 k2 c2) rfl; go_simp; exact hR)
                            apply Rel.rel_pure
                            apply Exists.intro
                            refine ⟨fun vs wq hq hdp R hR => ?_, ?_⟩
                            · (rw [HF.out, Rel.stepAt_eq]; clear hdp; skip; go_simp; exact hR)
                            apply Rel.rel_pure
                            apply Exists.intro
                            refine ⟨fun vs wq hq hdp R hR => ?_, ?_⟩
                            · (rw [HF.out, Rel.stepAt_eq]; clear hdp; skip; go_simp; exact hR)
                            apply Rel.rel_pure
                            apply Exists.intro
                            refine ⟨fun vs wq hq hdp R hR => ?_, ?_⟩
                            · (rw [HF.out, Rel.stepAt_eq]; have qd13 : vs 13 = _ := Rel.dep hdp 13 (by kernel_rfl); have qd14 : vs 14 = _ := Rel.dep hdp 14 (by kernel_rfl); clear hdp; skip; go_simp; exact hR)
                            apply Rel.rel_pure
                            apply Exists.intro
                            refine ⟨fun vs wq hq hdp R hR => ?_, ?_⟩
                            · (rw [HF.out, Rel.stepAt_eq]; have qd15 : vs 15 = _ := Rel.dep hdp 15 (by kernel_rfl); clear hdp; have y := (HMr.out.below hq).top.at k (HMr.out.cell k hkR); go_simp; exact hR)
                            apply Rel.rel_pure
                            apply Exists.intro
                            refine ⟨fun vs wq hq hdp R hR => ?_, ?_⟩
                            · (rw [HF.out, Rel.stepAt_eq]; clear hdp; skip; go_simp; exact hR)
                            apply Rel.rel_pure
                            apply Exists.intro
                            refine ⟨fun vs wq hq hdp R hR => ?_, ?_⟩
                            · (rw [HF.out, Rel.stepAt_eq]; have qd16 : vs 16 = _ := Rel.dep hdp 16 (by kernel_rfl); have qd17 : vs 17 = _ := Rel.dep hdp 17 (by kernel_rfl); clear hdp; skip; go_simp; exact hR)
                            apply Rel.rel_pure
                            apply Exists.intro
                            refine ⟨fun vs wq hq hdp R hR => ?_, ?_⟩
                            · (rw [HF.out, Rel.stepAt_eq]; have qd18 : vs 18 = _ := Rel.dep hdp 18 (by kernel_rfl); clear hdp; have x0 := (HKB.out.belowS hq).at (c * 3) hk0; have x1 := (HKB.out.belowS hq).at (c * 3 + 1) hk1; have x2 := (HKB.out.belowS hq).at (c * 3 + 2) hk2; go_simp; exact hR)
                            refine Rel.rel_law (S := fun v w' => IsRt w' (f0 * p0) v) (isRt_mono _) (fun vs wq hq hdp => ?_) ?_
                            · (rw [HF.out, Rel.stepAt_eq]; have qd12 : vs 12 = _ := Rel.dep hdp 12 (by kernel_rfl); have qd19 : vs 19 = _ := Rel.dep hdp 19 (by kernel_rfl); clear hdp; skip; go_simp; refine (ratTimes wq (HI9.out.below hq) (HK.out.below hq) HZ.out.1 HZ.out.2.1).mono ?_; rintro e w7 h; obtain ⟨v, rfl, hv, hb⟩ := h.is; exact ⟨_, rfl, hv, hb⟩)
                            refine Rel.rel_law (S := fun v w' => IsRt w' (q0 - f0 * p0) v) (isRt_mono _) (fun vs wq hq hdp => ?_) ?_
                            · (rw [HF.out, Rel.stepAt_eq]; have qd11 : vs 11 = _ := Rel.dep hdp 11 (by kernel_rfl); have qd20 : IsRt wq _ (vs 20) := Rel.dep hdp 20 (by kernel_rfl); clear hdp; skip; go_simp; refine (ratMinus wq (HI.out.below hq) qd20 HZ.out.2.2.1 HZ.out.2.2.2).mono ?_; rintro e w7 h; obtain ⟨v, rfl, hv, hb⟩ := h.is; exact ⟨_, rfl, hv, hb⟩)
                            apply Rel.rel_pure
                            apply Exists.intro
                            refine ⟨fun vs wq hq hdp R hR => ?_, ?_⟩
                            · (rw [HF.out, Rel.stepAt_eq]; have qd3 : vs 3 = _ := Rel.dep hdp 3 (by kernel_rfl); have qd4 : vs 4 = _ := Rel.dep hdp 4 (by kernel_rfl); clear hdp; skip; go_simp; exact hR)
                            refine Rel.rel_end (fun vs wq hq hall => ?_)
                            rw [HF.out]
                            have qe0 : vs 0 = _ := Rel.fin hall 0 (by decide)
                            have qe1 : vs 1 = _ := Rel.fin hall 1 (by decide)
                            have qe2 : vs 2 = _ := Rel.fin hall 2 (by decide)
                            have qe3 : vs 3 = _ := Rel.fin hall 3 (by decide)
                            have qe4 : vs 4 = _ := Rel.fin hall 4 (by decide)
                            have qe5 : vs 5 = _ := Rel.fin hall 5 (by decide)
                            have qe6 : vs 6 = _ := Rel.fin hall 6 (by decide)
                            have qe7 : vs 7 = _ := Rel.fin hall 7 (by decide)
                            have qe8 : vs 8 = _ := Rel.fin hall 8 (by decide)
                            have qe9 : vs 9 = _ := Rel.fin hall 9 (by decide)
                            have qe10 : vs 10 = _ := Rel.fin hall 10 (by decide)
                            have qe11 : vs 11 = _ := Rel.fin hall 11 (by decide)
                            have qe12 : vs 12 = _ := Rel.fin hall 12 (by decide)
                            have qe13 : vs 13 = _ := Rel.fin hall 13 (by decide)
                            have qe14 : vs 14 = _ := Rel.fin hall 14 (by decide)
                            have qe15 : vs 15 = _ := Rel.fin hall 15 (by decide)
                            have qe16 : vs 16 = _ := Rel.fin hall 16 (by decide)
                            have qe17 : vs 17 = _ := Rel.fin hall 17 (by decide)
                            have qe18 : vs 18 = _ := Rel.fin hall 18 (by decide)
                            have qe19 : vs 19 = _ := Rel.fin hall 19 (by decide)
                            have qe20 : IsRt wq _ (vs 20) := Rel.fin hall 20 (by decide)
                            have qe21 : IsRt wq _ (vs 21) := Rel.fin hall 21 (by decide)
                            have qe22 : vs 22 = _ := Rel.fin hall 22 (by decide)
                            clear hall HF uv ue
                            obtain ⟨t, C1, m1, l1, C2, m2, l2, ev2, hI2⟩ := qe21.open
                            have HMq := HMr.out.below hq
                            have HRq := (HMq.row r hrR).blk
                            obtain ⟨css', hput⟩ := HMq.put hrR hcn hI2
                            have HN2 : Hid (CiRel B gL R n k r T gs1 cp1 clS g12 s A1 k1 c1 A2 k2 c2 w (.int .i64 ((c : Int) + 1)) (put3o wq (gs1 r) (c * 3) (.bool t) (.slice C1 m1 l1) (.slice C2 m2 l2))) := Lib.hid
                              ⟨c + 1, css', by simp, by omega, Lib.hid (hput.congr fun r' c2 _ _ => HSTEP.out r' c2), Lib.hid (blk_put3o (K9.out.belowS hq) (fun e => HN12.out r hrR e.symm) _ _ _), Lib.hid (by rw [HQ0.out.2.2]; exact isRt_put3o (HI9.out.below hq) HRq hx0 hx1 hx2 _ _ _), Lib.hid (put3o_below (below_next hB HB.out hq) hgB _ _ _)⟩
                            have z0 := HRq.frz (c * 3)
                            have z1 := HRq.frz (c * 3 + 1)
                            have z2 := HRq.frz (c * 3 + 2)
                            have d0 := HRq.at (c * 3) hx0
                            have d1 := HRq.at (c * 3 + 1) hx1
                            have d2 := HRq.at (c * 3 + 2) hx2
                            unfold put3o at HN2
                            clear HRq HMq hput hI2 hq hx0 hx1 hx2 hk0 hk1 hk2 HMr K9 HI HK HI9 HB HZ HSTEP HRB HKB HQ0 qe0 qe1 qe2 qe3 qe4 qe5 qe6 qe7 qe8 qe9 qe10 qe11 qe12 qe13 qe14 qe15 qe16 qe17 qe18 qe19 qe20 qe21
                            go_wp2
                            go_roundw
                            case rel => exact HN2.out
                            case measure => simp [intOf]; omega
                          · obtain rfl : c = n + 1 := by omega
                            have HN : Hid (ClRel B gL R n k T gs1 cp1 clS w (.int .i64 ((r : Int) + 1)) wr) := Lib.hid ⟨r + 1, css, by simp, hrR, Lib.hid (HMr.out.congr fun r' c _ hc => cl_next T hc), HB⟩
                            clear HMr K9 HI9 HB
                            go_wp2
                            go_roundw
                            case rel => exact HN.out
                            case measure => simp [intOf]; omega
                  · obtain rfl : r = R := by omega
                    have HN : Hid (SvRel B gL r n M0 w (.int .i64 ((k : Int) + 1)) (.int .i64 ((k : Int) + 1)) wr) := Lib.hid ⟨k + 1, stageM M i k, gs1, cp1, clS, css, by simp, by simp, by omega, Lib.hid ((HNX.out M).more (pow_next (mE k))), Lib.hid (HMr.out.congr fun r' c hr' _ => (cl_end (fun c h => absurd h (Nat.not_lt_zero c)) hr').trans (hSt.out r' c).symm), HB⟩
                    clear HMr HB HT hSt HNX HTZ HSZ HSD hSk HS
                    go_wp2
                    go_roundw
                    case rel => exact HN.out
                    case measure => simp [intOf]; omega
        · obtain rfl : i = R := by omega
          have HF : Hid (SvRet B M0 i n w (.returned (.tuple #[.slice none 0 0, .bool false])) wr) := Lib.hid (sv_no (fun x hx => col_none HS.out.unit hkn (by omega) (fun r h1 h2 => HZ.out r h1 h2) x ((Only.iff HS.out.sol).2 hx)) HB.out)
          clear HS HZ HMr HB
          go_wp2
          go_ret2
          exact HF.out
    · obtain rfl : k = n := by omega
      obtain ⟨wo, rfl⟩ : ∃ wo : World, wo = wr := ⟨_, rfl⟩
      have HU := Lib.hid HS.out.unit
      have HIF := Lib.hid (fun x => Only.iff (x := x) HS.out.sol)
      obtain ⟨iw, wi, wz0, wz1, wz2⟩ := info_parts infoR
      have H8 : Hid (SoRel k (fun j => M j k) wo (.int .i64 0) (.slice (some ⟨wo.heap.size, 0, none⟩) 0 0) (wo.alloc (.cells #[] 82))) := Lib.hid ⟨0, [], rfl, Nat.zero_le _, Lib.hid (OwnR.lit0 wo _), Lib.hid (NoU.lit0 wo _), Lib.hid ((Below.refl _ _).alloc (Nat.le_refl _) _)⟩
      have hwo := HB.out.size
      clear HS
      go_wp2
      go_loopw [145, 14] (fun jv ov w2 => SoRel k (fun j => M j k) wo jv ov w2) (fun jv _ _ => k - (intOf jv).toNat)
      case atStart => exact H8.out
      case round =>
        obtain ⟨j, cs, rfl, hj, HO, HNU, HBo⟩ := hrel
        clear H8
        have HMq := Lib.hid (HMr.out.below HBo.out)
        by_cases hlt : j < k
        · obtain ⟨s, A1, k1, c1, A2, k2, c2, x0, x1, x2, hI⟩ := HMq.out.at (show j < R by omega) (show k < k + 1 by omega)
          have y := HMq.out.top.at j (HMq.out.cell j (by omega))
          have hrb := (HMq.out.row j (by omega)).blk
          have x0 := hrb.at (k * 3) x0
          have x1 := hrb.at (k * 3 + 1) x1
          have x2 := hrb.at (k * 3 + 2) x2
          obtain ⟨C1, l1, C2, l2, ev, d1, d2⟩ := hI
          injection ev with ev
          simp only [Array.mk.injEq, List.cons.injEq, Value.slice.injEq, Value.bool.injEq, and_true] at ev
          obtain ⟨e0, ⟨e1, e2, e3⟩, e4, e5, e6⟩ := ev
          subst e1 e3 e4 e6
          have HNX := Lib.hid (fun (w2 : World) v' ca t hown hg hnu he => SoRel.next (w2 := w2) (v' := v') (A1 := A1) (A2 := A2) (c1 := c1) (c2 := c2) (ca := ca) (t := t) hlt HO.out HNU.out HBo.out d1 d2 hown hg hnu he)
          unfold rt3 at HNX
          rw [← e0, ← e2, ← e5] at HNX
          have HOA := Lib.hid (World.ownsRow.alloc HO.out.row (.cells #[.bool s, .slice A1 k1 c1, .slice A2 k2 c2] 82))
          have HNA := Lib.hid (HNU.out.below ((Below.refl wr.heap.size wr).alloc (Nat.le_refl _) (.cells #[.bool s, .slice A1 k1 c1, .slice A2 k2 c2] 82)))
          have hs1 := HBo.out.size
          clear e0 e2 e5 d1 d2 hrb HO HNU HBo HMq
          go_wp2_with (at_builtin; refine wpList_append_noU _ rfl (.tmp 148) (.tmp 156) 76 rfl wo.heap.size 82 iw (.agg #[.bool false, .slice none 0 0, .slice none 0 0]) 3 56 Tryz.underlying76 wi wz0 wz1 wz2 rfl (by decide) _ _ _ rfl HOA.out ⟨wr.heap.size, 0, none⟩ 1 1 [.bool s, .slice A1 k1 c1, .slice A2 k2 c2] rfl rfl ?p1a ?p2a ?p3a ?p4a ?p5a HNA.out notU_three notU_zero3 ?_)
          try case p1a => exact news_three _ _ (by simp)
          try case p2a => exact ones_three
          try case p3a => first | (simp only [maxLen]; omega) | omega
          try case p4a => omega
          try case p5a => first | (simp only [World.size_alloc]; omega) | omega
          intro v' w3 hown' hg' hnu' he
          have HN3 := Lib.hid (HNX.out w3 v' _ _ hown' hg' hnu' (by rw [World.size_alloc]; exact he))
          clear hown' hg' hnu' he HNX HOA HNA x0 x1 x2 y
          go_wp2
          go_roundw
          case rel => exact HN3.out
          case measure => simp [intOf]; omega
        · obtain rfl : j = k := by omega
          obtain ⟨A', c', rfl, _⟩ := HO.out.form
          have HBw := Lib.hid (below_next hB HB.out (HBo.out))
          clear HNU
          rcases HR.out with rfl | rfl
          · have HFIN : Hid (SvRet B M0 R R w (.returned (.tuple #[.slice A' R c', .bool true])) wr) := Lib.hid (sv_yes ((HIF.out _).1 (unit_only HU.out (Nat.le_refl _) (fun r h1 h2 => by omega))) (HO.out.base hwo) HBw.out)
            clear HO HBw HBo HMq HMr HB HIF HU
            rcases Nat.lt_or_ge R cL with hc | hc
            · go_wp2
              refine wp_loop_rounds 1 ?_
              rw [rounds_succ]
              go_wp2
              go_ret2
              exact HFIN.out
            · obtain rfl : R = cL := by omega
              go_wp2
              refine wp_loop_rounds 1 ?_
              rw [rounds_succ]
              go_wp2
              go_ret2
              exact HFIN.out
          · obtain ⟨s, A1, k1, c1, A2, k2, c2, x0, x1, x2, hI⟩ := HMq.out.at (show j < j + 1 by omega) (show j < j + 1 by omega)
            have y := HMq.out.top.at j (HMq.out.cell j (by omega))
            have hrb := (HMq.out.row j (by omega)).blk
            have x0 := hrb.at (j * 3) x0
            have x1 := hrb.at (j * 3 + 1) x1
            have x2 := hrb.at (j * 3 + 2) x2
            have HQ := Lib.hid (ratZero wr hI)
            clear hrb hI
            by_cases hz : M j j = 0
            · rw [decide_eq_true hz] at HQ
              have HFIN : Hid (∀ W, Below wr.heap.size wr W → SvRet B M0 (j + 1) j w (.returned (.tuple #[.slice A' j c', .bool true])) W) := Lib.hid (fun W hb => sv_yes ((HIF.out _).1 (unit_only HU.out (by omega) (fun r h1 h2 => by
                obtain rfl : r = j := by omega
                exact hz))) ((HO.out.below hb).base hwo) (below_next hB HBw.out hb))
              clear HO HBw HBo HMq HMr HB HIF HU hz
              go_wp2
              refine wp_loop_rounds 2 ?_
              rw [rounds_succ]
              go_wp2_with fail
              refine HQ.out.mono ?_
              rintro e w6 ⟨rfl, hb6⟩
              have HF := Lib.hid (HFIN.out w6 hb6)
              clear hb6 HQ HFIN x0 x1 x2 y
              go_wp2
              rw [rounds_succ]
              go_wp2
              go_ret2
              exact HF.out
            · rw [decide_eq_false hz] at HQ
              have HFIN : Hid (∀ W, Below wr.heap.size wr W → SvRet B M0 (j + 1) j w (.returned (.tuple #[.slice none 0 0, .bool false])) W) := Lib.hid (fun W hb => sv_no (fun x hx => unit_none HU.out (by omega) (Nat.le_refl _) (by omega) hz x ((HIF.out x).2 hx)) (below_next hB HBw.out hb))
              clear HO HBw HBo HMq HMr HB HIF HU hz
              go_wp2
              refine wp_loop_rounds 2 ?_
              rw [rounds_succ]
              go_wp2_with fail
              refine HQ.out.mono ?_
              rintro e w6 ⟨rfl, hb6⟩
              have HF := Lib.hid (HFIN.out w6 hb6)
              clear hb6 HQ HFIN x0 x1 x2 y
              go_wp2
              go_ret2
              exact HF.out
end Go.Proofs.YthagenodiofgnaaGreat.Ratio

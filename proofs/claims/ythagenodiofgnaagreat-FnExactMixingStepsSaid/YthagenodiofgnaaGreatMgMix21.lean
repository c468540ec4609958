/- The reference: linear equations are solved. -/
import Derived.Test.YthagenodiofgnaaGreatMgMix20
namespace Go.Proofs.YthagenodiofgnaaGreat.Wide
open Go.RowKit Go.Proofs.YthagenodiofgnaaGreat Go.Proofs.YthagenodiofgnaaGreat.Base Go.Proofs.YthagenodiofgnaaGreat.Mem Go.Proofs.YthagenodiofgnaaGreat.RatM Go.Proofs.YthagenodiofgnaaGreat.BigM Go.Proofs.YthagenodiofgnaaGreat.Big Go.Proofs.YthagenodiofgnaaGreat.Fine Go.Proofs.YthagenodiofgnaaGreat.Blk Go.Proofs.YthagenodiofgnaaGreat.GaussM
open Go.Proofs.YthagenodiofgnaaGreat.Ratio (Stg Stg.start Stg.more Stg.next solB solX sN sol_yes sol_no swF scP sc_start sc_at sc_step sc_end clP cl_start cl_row cl_at cl_step cl_next cl_skip cl_end swap_dg below_next cast_ne)
set_option linter.unusedVariables false
def CpRel (n mx : Nat) (M0 : Nat → Nat → Rat) (w : World) (iv mv : Value) (wr : World) : Prop :=
 ∃ (i : Nat) (us : List Value), iv = .int .i64 (i : Int) ∧ i ≤ n ∧ Hid (OwnWW wr w.heap.size mv i (n + 1) M0 mx us) ∧ Hid (Below w.heap.size w wr)
def SxRel (gL n mx : Nat) (M0 : Nat → Nat → Rat) (w : World) (cv : Value) (wr : World) : Prop :=
 ∃ (c : Nat) (M : Nat → Nat → Rat) (gs cp : Nat → Nat) (cl : Array Value) (css : Nat → Array Value), cv = .int .i64 (c : Int) ∧ c ≤ n ∧ Hid (Stg M0 M n n c (D30 ^ mD c)) ∧ Hid (MatW wr w.heap.size gL n (n + 1) M mx gs cp cl css) ∧ Hid (Below w.heap.size w wr)
def SkRel (gL n mx c : Nat) (S : Nat → Nat → Rat) (gs cp : Nat → Nat) (cl : Array Value) (g9 : Nat) (s : Bool) (A1 : Option Addr) (k1 c1 : Nat) (A2 : Option Addr) (k2 c2 : Nat) (fi : Bool) (fn fd : Int) (w : World) (kv : Value) (wr : World) : Prop :=
 ∃ (k : Nat) (css : Nat → Array Value), kv = .int .i64 (k : Int) ∧ c ≤ k ∧ k ≤ n + 1 ∧ Hid (MatW wr w.heap.size gL n (n + 1) (scP S c c k (S c c)⁻¹) mx gs cp cl css) ∧ Hid (Blk wr g9 107 #[.bool s, .slice A1 k1 c1, .slice A2 k2 c2, .bool fi, .int .i64 fn, .int .i64 fd]) ∧ Hid (IsW wr (S c c)⁻¹ mx (.agg #[.bool s, .slice A1 k1 c1, .slice A2 k2 c2, .bool fi, .int .i64 fn, .int .i64 fd])) ∧ Hid (Below w.heap.size w wr)
def SiRel (gL n mx c : Nat) (T : Nat → Nat → Rat) (gs cp : Nat → Nat) (cl : Array Value) (w : World) (iv : Value) (wr : World) : Prop :=
 ∃ (i : Nat) (css : Nat → Array Value), iv = .int .i64 (i : Int) ∧ i ≤ n ∧ Hid (MatW wr w.heap.size gL n (n + 1) (clP T c c i c) mx gs cp cl css) ∧ Hid (Below w.heap.size w wr)
def SjRel (gL n mx c i : Nat) (T : Nat → Nat → Rat) (gs cp : Nat → Nat) (cl : Array Value) (g9 : Nat) (s : Bool) (A1 : Option Addr) (k1 c1 : Nat) (A2 : Option Addr) (k2 c2 : Nat) (fi : Bool) (fn fd : Int) (w : World) (kv : Value) (wr : World) : Prop :=
 ∃ (k : Nat) (css : Nat → Array Value), kv = .int .i64 (k : Int) ∧ c ≤ k ∧ k ≤ n + 1 ∧ Hid (MatW wr w.heap.size gL n (n + 1) (clP T c c i k) mx gs cp cl css) ∧ Hid (Blk wr g9 107 #[.bool s, .slice A1 k1 c1, .slice A2 k2 c2, .bool fi, .int .i64 fn, .int .i64 fd]) ∧ Hid (IsW wr (-1 * T i c) (2 + mx) (.agg #[.bool s, .slice A1 k1 c1, .slice A2 k2 c2, .bool fi, .int .i64 fn, .int .i64 fd])) ∧ Hid (Below w.heap.size w wr)
def SyRel (n mx : Nat) (f : Nat → Rat) (wo : World) (jv ov : Value) (wr : World) : Prop :=
 ∃ (j : Nat) (cs : List Value), jv = .int .i64 (j : Int) ∧ j ≤ n ∧ Hid (OwnW wr wo.heap.size ov j f mx cs) ∧ Hid (Below wo.heap.size wo wr)
set_option maxHeartbeats 4000000 in
set_option maxRecDepth 100000 in
theorem solveS_any {B0 g0 n c0 : Nat} {M0 : Nat → Nat → Rat} {gs0 cp0 : Nat → Nat} {cl0 : Array Value} {css0 : Nat → Array Value} (w : World) (hM : MatW w B0 g0 n (n + 1) M0 5 gs0 cp0 cl0 css0) (h1 : 1 ≤ n) (h6 : n ≤ 6) (hdg : ∀ r c, r < n → c ≤ n → Dg (D30 ^ 5) (M0 r c)) :
    Calls Tryz.prog 68 #[.slice (some ⟨g0, 0, none⟩) n c0] w (SwRet M0 n (mD 6) w) := by
  obtain ⟨iw, wi, wz0, wz1, wz2⟩ := info_parts infoW
  obtain ⟨iv, vi, vz0, vz1, vz2⟩ := info_parts infoWW
  have HMX0 : Hid (∀ c, c ≤ 6 → mD c ≤ mD 6) := Lib.hid (fun c hc => mD_up hc)
  have hm3 : mD 6 ≤ 30000 := by decide
  have hm5 : 5 ≤ mD 6 := by decide
  generalize mD 6 = mx at *
  have HST := Lib.hid (Stg.start hdg)
  have HM := Lib.hid (hM.more hm5)
  have H0 : Hid (CpRel n mx M0 w (.int .i64 0) (.slice (some ⟨w.heap.size, 0, none⟩) 0 0) (w.alloc (.cells #[] 58))) := Lib.hid ⟨0, [], rfl, Nat.zero_le _, Lib.hid (OwnWW.lit0 w _ _ _), Lib.hid ((Below.refl _ _).alloc (Nat.le_refl _) _)⟩
  clear hM hdg
  go_enter Tryz.func68, Tryz.ntmps68
  go_wp2
  go_loopw [6, 5] (fun iv mv wr => CpRel n mx M0 w iv mv wr) (fun iv _ _ => n - (intOf iv).toNat)
  case atStart => exact H0.out
  case round =>
    obtain ⟨i, us, rfl, hi, HO, HB⟩ := hrel
    clear H0
    obtain ⟨Al, cl, hlv, hAl⟩ := HO.out.form
    subst hlv
    have hsz := HB.out.size
    by_cases hin : i < n
    · have HMr := Lib.hid (HM.out.below HB.out)
      have y := HMr.out.top.at i (HMr.out.cell i hin)
      have HR0 := Lib.hid (HMr.out.row i hin)
      have hgl := (HMr.out.row i hin).blk.lt
      have HLEN := Lib.hid (rowC_len (HR0.out))
      have hb1 : Below wr.heap.size wr (wr.alloc (.cells #[] 107)) := (Below.refl _ _).alloc (Nat.le_refl _) _
      have y' := (HMr.out.below hb1).top.at i (HMr.out.cell i hin)
      have hg0l := HMr.out.top.lt
      have hg0n : g0 ≠ wr.heap.size := by omega
      have HRA := Lib.hid (HR0.out.below hb1)
      have HOW := Lib.hid (OwnW.lit0 wr (M0 i) mx).row
      have HBA := Lib.hid hb1
      clear hb1 HMr HR0
      generalize hgr : gs0 i = gr at *
      generalize cp0 i = cr at *
      generalize css0 i = cr0 at *
      clear hgr
      go_wp2_with (at_builtin; refine wpList_append_own_at _ rfl (.tmp 26) (.tmp 30) 58 rfl wr.heap.size 107 iw (.agg #[.bool false, .slice none 0 0, .slice none 0 0, .bool false, .int .i64 0, .int .i64 0]) 6 80 Tryz.underlying58 wi wz0 wz1 wz2 rfl (by decide) _ _ _ rfl HOW.out ⟨gr, 0, none⟩ (n + 1) cr (rowC cr0 (n + 1)) rfl HLEN.out ?p1 ?p2 ?p3 ?p4 ?p5 ?_)
      try case p1 => exact rowC_news HRA.out
      try case p2 => exact rowC_ones HRA.out
      try case p3 => first | (simp only [maxLen]; omega) | omega
      try case p4 => omega
      try case p5 => first | (simp only [World.size_alloc]; omega) | omega
      intro v' w1 hown' hg' _ he
      try simp only [Nat.zero_add, List.nil_append] at hown'
      have hW1 := RowV.copied HRA.out HOW.out hown' hg'
      have hb1 : Below wr.heap.size wr w1 := HBA.out.trans (grown_below hg' (fun g e => (ownsRow_block HOW.out e).choose_spec.2.1) HBA.out.size)
      obtain ⟨A2, c2, rfl, hA2⟩ := hW1.form
      obtain ⟨g2, rfl, hg2, _⟩ := hA2 (Nat.succ_pos n)
      obtain ⟨cur, hcur⟩ := hW1.toV
      have HP := Lib.hid (fun (w2 : World) v'' ca tt hown hg => OwnWW.push (w2 := w2) (v' := v'') (c := c2) (ca := ca) (t := tt) HO.out hb1 hcur hg2 hsz hown hg)
      have HOB := Lib.hid (World.ownsRow.alloc (ownsRow_below HO.out.row hb1) (.cells #[.slice (some ⟨g2, 0, none⟩) (n + 1) c2] 58))
      have HBB := Lib.hid (fun (w2 : World) (hg : (w1.alloc (.cells #[.slice (some ⟨g2, 0, none⟩) (n + 1) c2] 58)).grownBy w2 (Value.slice Al i cl).ownBlock) => (below_next (Nat.le_refl _) HB.out (hb1.alloc hb1.size _)).trans (grown_below hg (fun g e => (ownsRow_block HO.out.row e).choose_spec.2.1) (Nat.le_trans HB.out.size (hb1.alloc hb1.size _).size)))
      have hs1 := hb1.size
      clear hown' hg' he hW1 hb1 hA2 hg2 hcur HRA HOW HBA HLEN HO HB y y' hg0l hg0n
      go_wp2_with (at_builtin; refine wpList_append_own_at _ rfl (.tmp 25) (.tmp 32) 105 rfl w.heap.size 58 iv (.slice none 0 0) 1 24 Tryz.underlying105 vi vz0 vz1 vz2 rfl (by decide) _ _ _ rfl HOB.out ⟨w1.heap.size, 0, none⟩ 1 1 [.slice (some ⟨g2, 0, none⟩) (n + 1) c2] rfl rfl ?p1c ?p2c ?p3c ?p4c ?p5c ?_)
      try case p1c => exact news_one _ _ _ (by simp)
      try case p2c => first | exact one_slice | (intro u hu; simp at hu; subst hu; rfl)
      try case p3c => first | (simp only [maxLen]; omega) | omega
      try case p4c => omega
      try case p5c => first | (simp only [World.size_alloc]; omega) | omega
      intro v'' w2 hown' hg' _ _
      have HN : Hid (CpRel n mx M0 w (.int .i64 ((i : Int) + 1)) v'' w2) := Lib.hid ⟨i + 1, _, by simp, hin, Lib.hid (HP.out w2 v'' _ _ hown' hg'), Lib.hid (HBB.out w2 hg')⟩
      clear hown' hg' HP HOB HBB
      go_wp2
      go_roundw
      case rel => exact HN.out
      case measure => simp [intOf]; omega
    · obtain rfl : i = n := by omega
      obtain ⟨gL, rfl, _, _⟩ := hAl (by omega)
      obtain ⟨gs, cp, cm, css, hmat⟩ := HO.out.mat
      have H1 : Hid (SxRel gL i mx M0 w (.int .i64 0) wr) := Lib.hid ⟨0, M0, gs, cp, cm, css, rfl, Nat.zero_le _, HST, Lib.hid hmat, HB⟩
      clear hmat HO HB HM HST hAl
      go_wp2
      go_loopw [7] (fun cv w2 => SxRel gL i mx M0 w cv w2) (fun cv _ => i - (intOf cv).toNat)
      case atStart => exact H1.out
      case round =>
        obtain ⟨c, M, gs, cp, cm, css, rfl, hc, HS, HMr, HB⟩ := hrel
        clear H1
        by_cases hcn : c < i
        · go_wp2
          go_loop [8] (fun pv => ∃ p : Nat, pv = .int .i64 (p : Int) ∧ c ≤ p ∧ p ≤ i ∧ Hid (∀ r, c ≤ r → r < p → M r c = 0)) (fun pv => i - (intOf pv).toNat)
          case atStart => exact ⟨c, rfl, Nat.le_refl _, hc, Lib.hid (fun r h1 h2 => by omega)⟩
          case round =>
            obtain ⟨p, rfl, hcp, hp, HZ⟩ := hrel
            by_cases hpi : p < i
            · obtain ⟨s, A1, k1, c1, A2, k2, c2, fi, fn, fd, nn, dd, x0, x1, x2, x3, x4, x5, hpp⟩ := (HMr.out.row p hpi).els c (by omega)
              have y := HMr.out.top.at p (HMr.out.cell p hpi)
              have x1 := (HMr.out.row p hpi).blk.at (c * 6 + 1) x1
              have hlz := len_zero hpp
              clear x0 x2 x3 x4 x5 hpp
              by_cases hz : M p c = 0
              · obtain rfl := hlz.2 hz
                have HN : Hid (∀ r, c ≤ r → r < p + 1 → M r c = 0) := Lib.hid (fun r h1 h2 => if e : r = p then by rw [e]; exact hz else HZ.out r h1 (by omega))
                clear hlz hz
                go_wp2
                go_round
                case rel => exact ⟨p + 1, by simp, by omega, hpi, HN⟩
                case measure => simp [intOf]; omega
              · have hk1 : ((k1 : Int) == 0) = false := by
                  have : k1 ≠ 0 := fun e => hz (hlz.1 e)
                  simp; omega
                have HNZ := Lib.hid hz
                clear hlz hz
                have heq := cast_ne (show p ≠ i by omega)
                have y0 := HMr.out.top.at c (HMr.out.cell c hcn)
                have y2 := HMr.out.mid hpi hcn
                have z0 := HMr.out.top.frz c
                have z1 := HMr.out.top.frz p
                have HSW := Lib.hid (HMr.out.swap hpi hcn)
                have HBL := Lib.hid (And.intro HMr.out.lowL HB.out)
                clear HMr HB HZ
                generalize hgk : gs c = gk at *
                generalize hgi : gs p = gi at *
                generalize hck : cp c = ck at *
                generalize hci : cp p = ci at *
                have HGS := Lib.hid (And.intro hgk (And.intro hgi (And.intro hck hci)))
                clear hgk hgi hck hci
                go_upto_region 18 with (fail)
                clear y y0 y2 z0 z1 x1
                obtain ⟨W4, hW4⟩ : ∃ W4, W4 = (wr.setCell ⟨gL, p, none⟩ (.slice (some ⟨gk, 0, none⟩) (i + 1) ck)).setCell ⟨gL, c, none⟩ (.slice (some ⟨gi, 0, none⟩) (i + 1) ci) := ⟨_, rfl⟩
                rw [← hW4]
                obtain ⟨clS, hsw⟩ := HSW.out
                have HM4 : Hid (MatW W4 w.heap.size gL i (i + 1) (swapM M p c) mx (swF gs p c) (swF cp p c) clS (swF css p c)) := Lib.hid (by rw [hW4]; exact hsw)
                have HB4 : Hid (Below w.heap.size w W4) := Lib.hid (by rw [hW4]; exact (HBL.out.2.setCell (p := ⟨gL, p, none⟩) HBL.out.1 _).setCell (p := ⟨gL, c, none⟩) HBL.out.1 _)
                have HNX := Lib.hid (HS.out.next hcp hpi hcn (by omega) HNZ.out)
                have hSk : Hid (swapM M p c c c ≠ 0) := Lib.hid (by unfold swapM; rw [if_pos rfl]; exact HNZ.out)
                have hSt : Hid (∀ r k, stageM M p c r k = clearM (scaleM (swapM M p c) c (swapM M p c c c)⁻¹) c r k) := Lib.hid (by intro r k; unfold stageM; rw [show swapM M p c c c = M p c by unfold swapM; rw [if_pos rfl]])
                have HSD := Lib.hid (swap_dg hpi hcn HS.out.dg)
                have HSL : Hid (∀ j, j < c → swapM M p c c j = 0) := Lib.hid (fun j hj => by
                  unfold swapM
                  rw [if_pos rfl, HS.out.unit j hj p hpi, if_neg (by omega)])
                have HMC : Hid (mD c + mD c ≤ mx ∧ mD (c + 1) ≤ mx) := Lib.hid (by
                  have h := HMX0.out (c + 1) (by omega)
                  have h2 : mD (c + 1) = 4 * mD c + 1 := rfl
                  exact ⟨by omega, h⟩)
                have HND : Hid (∀ r k, r < i → k ≤ i → Dg (D30 ^ mx) (stageM M p c r k)) := Lib.hid (fun r k hr hk => dgD_more ((HNX.out.dg r k hr hk).more (pow_nextD (mD c))) HMC.out.2)
                clear hsw hW4 HSW HBL HGS heq hk1
                generalize hS : swapM M p c = S at *
                generalize swF gs p c = gs1 at *
                generalize swF cp p c = cp1 at *
                generalize swF css p c = css1 at *
                clear hS
                obtain ⟨s, A1, k1, c1, A2, k2, c2, fi, fn, fd, nn, dd, x0, x1, x2, x3, x4, x5, hpp⟩ := (HM4.out.row c hcn).els c (by omega)
                have y := HM4.out.top.at c (HM4.out.cell c hcn)
                have hrb := (HM4.out.row c hcn).blk
                have x0 := hrb.at (c * 6) x0
                have x1 := hrb.at (c * 6 + 1) x1
                have x2 := hrb.at (c * 6 + 2) x2
                have x3 := hrb.at (c * 6 + 3) x3
                have x4 := hrb.at (c * 6 + 4) x4
                have x5 := hrb.at (c * 6 + 5) x5
                have HOV := Lib.hid (over_any W4 ⟨_, _, _, _, _, _, _, _, _, _, _, _, rfl, hpp⟩ hSk.out (by omega))
                clear hrb hpp
                go_wp2_with fail
                refine HOV.out.mono ?_
                rintro e w5 ⟨v, rfl, hv5, hb5⟩
                clear y x0 x1 x2 x3 x4 x5 HOV
                obtain ⟨s, A1, k1, c1, A2, k2, c2, fi, fn, fd, nn, dd, rfl, hp5⟩ := hv5
                obtain ⟨W6, hW6⟩ : ∃ W6, W6 = w5.alloc (.cells #[.bool s, .slice A1 k1 c1, .slice A2 k2 c2, .bool fi, .int .i64 fn, .int .i64 fd] 107) := ⟨_, rfl⟩
                obtain ⟨g9, hg9⟩ : ∃ g9, g9 = w5.heap.size := ⟨_, rfl⟩
                have hb6 : Below w5.heap.size w5 W6 := by rw [hW6]; exact (Below.refl _ _).alloc (Nat.le_refl _) _
                have K9 : Hid (Blk W6 g9 107 #[.bool s, .slice A1 k1 c1, .slice A2 k2 c2, .bool fi, .int .i64 fn, .int .i64 fd]) := Lib.hid (by rw [hW6, hg9]; exact Blk.new w5 _ _)
                have hb56 := Base.Below.nextA hb5 hb6
                have hb5s := hb5.size
                have HN9 := Lib.hid (fun r (hr : r < i) => show gs1 r ≠ g9 by have := (HM4.out.row r hr).blk.lt; omega)
                have H5 : Hid (SkRel gL i mx c S gs1 cp1 clS g9 s A1 k1 c1 A2 k2 c2 fi fn fd w (.int .i64 (c : Int)) W6) := Lib.hid ⟨c, css1, rfl, Nat.le_refl _, by omega, Lib.hid ((HM4.out.below hb56).congr fun r k hr hk => (sc_start S c c _ r k).symm), K9, Lib.hid (IsW.below ⟨_, _, _, _, _, _, _, _, _, _, _, _, rfl, hp5⟩ hb6), Lib.hid (below_next (Nat.le_refl _) HB4.out hb56)⟩
                have HW6 := Lib.hid hW6
                have HG9 := Lib.hid hg9
                clear hW6 hg9 hb6 hb5 hb56 hp5 K9 HM4 HB4 hb5s
                go_upto_region 19 with (fail)
                rw [← HW6.out, ← HG9.out]
                clear HW6 HG9
                go_wp2
                go_loopw [11] (fun kv w2 => SkRel gL i mx c S gs1 cp1 clS g9 s A1 k1 c1 A2 k2 c2 fi fn fd w kv w2) (fun kv _ => i + 1 - (intOf kv).toNat)
                case atStart => exact H5.out
                case round =>
                  obtain ⟨k, css, rfl, hck, hk, HMr, K9, HI9, HB⟩ := hrel
                  clear H5
                  by_cases hki : k ≤ i
                  · obtain ⟨s', B1, j1, d1, B2, j2, d2, fi', fn', fd', nn, dd, hx0, hx1, hx2, hx3, hx4, hx5, hpp⟩ := (HMr.out.row c hcn).els k (by omega)
                    rw [sc_at] at hpp
                    have HI : Hid (IsW wr (S c k) mx _) := Lib.hid ⟨_, _, _, _, _, _, _, _, _, _, _, _, rfl, hpp⟩
                    have HRB := Lib.hid (HMr.out.row c hcn).blk
                    have HSTEP := Lib.hid (fun r c2 => sc_step S (k := c) (c' := k) (S c c)⁻¹ hck r c2)
                    have HDG : Hid (Dg (D30 ^ mx) (S c k * (S c c)⁻¹)) := Lib.hid (dgD_more (dgD_mul (HSD.out c k hcn hki) ((HSD.out c c hcn (by omega)).inv hSk.out)) HMC.out.1)
                    have hgB := HMr.out.low c hcn
                    clear hpp
                    generalize hq0 : S c k = q0 at *
                    generalize hp0 : (S c c)⁻¹ = t0 at *
                    have HQ0 := Lib.hid (And.intro hq0 hp0)
                    clear hq0 hp0
                    have hki1 : (k : Int) < (i : Int) + 1 := by omega
                    go_upto_region 22 with (fail)
                    refine Rel.wp_region_rel 16 (by kernel_rfl) (by kernel_rfl) (fun F hF => ?_)
                    simp only [List.take_succ_cons, List.take_zero, List.drop_succ_cons, List.drop_zero, Rel.putL] at hF ⊢
                    have HF := Lib.hid hF
                    clear hF
                    have uv := @Rel.upon_value Tryz.prog
                    have ue := @Rel.upon_enter Tryz.prog
                    apply Rel.rel_pure
                    apply Exists.intro
                    refine ⟨fun vs wq hq hdp R hR => ?_, ?_⟩
                    · (rw [HF.out, Rel.stepAt_eq]; clear hdp; skip; go_simp; exact hR)
                    apply Rel.rel_pure
                    apply Exists.intro
                    refine ⟨fun vs wq hq hdp R hR => ?_, ?_⟩
                    · (rw [HF.out, Rel.stepAt_eq]; clear hdp; skip; go_simp; exact hR)
                    apply Rel.rel_pure
                    apply Exists.intro
                    refine ⟨fun vs wq hq hdp R hR => ?_, ?_⟩
                    · (rw [HF.out, Rel.stepAt_eq]; have qd0 : vs 0 = _ := Rel.dep hdp 0 (by kernel_rfl); have qd1 : vs 1 = _ := Rel.dep hdp 1 (by kernel_rfl); clear hdp; skip; go_simp; exact hR)
                    apply Rel.rel_pure
                    apply Exists.intro
                    refine ⟨fun vs wq hq hdp R hR => ?_, ?_⟩
                    · (rw [HF.out, Rel.stepAt_eq]; have qd2 : vs 2 = _ := Rel.dep hdp 2 (by kernel_rfl); clear hdp; have y := (HMr.out.below hq).top.at c (HMr.out.cell c hcn); go_simp; exact hR)
                    apply Rel.rel_pure
                    apply Exists.intro
                    refine ⟨fun vs wq hq hdp R hR => ?_, ?_⟩
                    · (rw [HF.out, Rel.stepAt_eq]; clear hdp; skip; go_simp; exact hR)
                    apply Rel.rel_pure
                    apply Exists.intro
                    refine ⟨fun vs wq hq hdp R hR => ?_, ?_⟩
                    · (rw [HF.out, Rel.stepAt_eq]; clear hdp; skip; go_simp; exact hR)
                    apply Rel.rel_pure
                    apply Exists.intro
                    refine ⟨fun vs wq hq hdp R hR => ?_, ?_⟩
                    · (rw [HF.out, Rel.stepAt_eq]; clear hdp; skip; go_simp; exact hR)
                    apply Rel.rel_pure
                    apply Exists.intro
                    refine ⟨fun vs wq hq hdp R hR => ?_, ?_⟩
                    · (rw [HF.out, Rel.stepAt_eq]; have qd5 : vs 5 = _ := Rel.dep hdp 5 (by kernel_rfl); have qd6 : vs 6 = _ := Rel.dep hdp 6 (by kernel_rfl); clear hdp; skip; go_simp; exact hR)
                    apply Rel.rel_pure
                    apply Exists.intro
                    refine ⟨fun vs wq hq hdp R hR => ?_, ?_⟩
                    · (rw [HF.out, Rel.stepAt_eq]; have qd7 : vs 7 = _ := Rel.dep hdp 7 (by kernel_rfl); clear hdp; have y := (HMr.out.below hq).top.at c (HMr.out.cell c hcn); go_simp; exact hR)
                    apply Rel.rel_pure
                    apply Exists.intro
                    refine ⟨fun vs wq hq hdp R hR => ?_, ?_⟩
                    · (rw [HF.out, Rel.stepAt_eq]; clear hdp; skip; go_simp; exact hR)
                    apply Rel.rel_pure
                    apply Exists.intro
                    refine ⟨fun vs wq hq hdp R hR => ?_, ?_⟩
                    · (rw [HF.out, Rel.stepAt_eq]; have qd8 : vs 8 = _ := Rel.dep hdp 8 (by kernel_rfl); have qd9 : vs 9 = _ := Rel.dep hdp 9 (by kernel_rfl); clear hdp; skip; go_simp; exact hR)
                    apply Rel.rel_pure
                    apply Exists.intro
                    refine ⟨fun vs wq hq hdp R hR => ?_, ?_⟩
                    · (rw [HF.out, Rel.stepAt_eq]; have qd10 : vs 10 = _ := Rel.dep hdp 10 (by kernel_rfl); clear hdp; have x0 := (HRB.out.belowS hq).at (k * 6) hx0; have x1 := (HRB.out.belowS hq).at (k * 6 + 1) hx1; have x2 := (HRB.out.belowS hq).at (k * 6 + 2) hx2; have x3 := (HRB.out.belowS hq).at (k * 6 + 3) hx3; have x4 := (HRB.out.belowS hq).at (k * 6 + 4) hx4; have x5 := (HRB.out.belowS hq).at (k * 6 + 5) hx5; go_simp; exact hR)
                    apply Rel.rel_pure
                    apply Exists.intro
                    refine ⟨fun vs wq hq hdp R hR => ?_, ?_⟩
                    · (rw [HF.out, Rel.stepAt_eq]; clear hdp; have y0 := (K9.out.belowS hq).at 0 (v := .bool s) rfl; have y1 := (K9.out.belowS hq).at 1 (v := .slice A1 k1 c1) rfl; have y2 := (K9.out.belowS hq).at 2 (v := .slice A2 k2 c2) rfl; have y3 := (K9.out.belowS hq).at 3 (v := .bool fi) rfl; have y4 := (K9.out.belowS hq).at 4 (v := .int .i64 fn) rfl; have y5 := (K9.out.belowS hq).at 5 (v := .int .i64 fd) rfl; go_simp; exact hR)
                    refine Rel.rel_law (S := fun v w' => IsW w' (q0 * t0) (mx + mx) v) (isW_mono _ _) (fun vs wq hq hdp => ?_) ?_
                    · (rw [HF.out, Rel.stepAt_eq]; have qd11 : vs 11 = _ := Rel.dep hdp 11 (by kernel_rfl); have qd12 : vs 12 = _ := Rel.dep hdp 12 (by kernel_rfl); clear hdp; skip; go_simp; refine (wideMul_any wq (HI.out.below hq) (HI9.out.below hq) (by omega) (by omega) (by omega) (by omega)).mono ?_; rintro e w7 ⟨v, rfl, hv, hb⟩; exact ⟨_, rfl, hv, hb⟩)
                    refine Rel.rel_law (S := fun v w' => IsW w' (q0 * t0) mx v) (isW_mono _ _) (fun vs wq hq hdp => ?_) ?_
                    · (rw [HF.out, Rel.stepAt_eq]; have qd13 : IsW wq _ _ (vs 13) := Rel.dep hdp 13 (by kernel_rfl); clear hdp; skip; go_simp; refine (lowest_any wq qd13 (by omega)).mono ?_; rintro e w7 ⟨v, rfl, hv, hb⟩; exact ⟨_, rfl, hv.le HDG.out, hb⟩)
                    apply Rel.rel_pure
                    apply Exists.intro
                    refine ⟨fun vs wq hq hdp R hR => ?_, ?_⟩
                    · (rw [HF.out, Rel.stepAt_eq]; have qd3 : vs 3 = _ := Rel.dep hdp 3 (by kernel_rfl); have qd4 : vs 4 = _ := Rel.dep hdp 4 (by kernel_rfl); clear hdp; skip; go_simp; exact hR)
                    refine Rel.rel_end (fun vs wq hq hall => ?_)
                    rw [HF.out]
                    have qe0 : vs 0 = _ := Rel.fin hall 0 (by decide)
                    have qe1 : vs 1 = _ := Rel.fin hall 1 (by decide)
                    have qe2 : vs 2 = _ := Rel.fin hall 2 (by decide)
                    have qe3 : vs 3 = _ := Rel.fin hall 3 (by decide)
                    have qe4 : vs 4 = _ := Rel.fin hall 4 (by decide)
                    have qe5 : vs 5 = _ := Rel.fin hall 5 (by decide)
                    have qe6 : vs 6 = _ := Rel.fin hall 6 (by decide)
                    have qe7 : vs 7 = _ := Rel.fin hall 7 (by decide)
                    have qe8 : vs 8 = _ := Rel.fin hall 8 (by decide)
                    have qe9 : vs 9 = _ := Rel.fin hall 9 (by decide)
                    have qe10 : vs 10 = _ := Rel.fin hall 10 (by decide)
                    have qe11 : vs 11 = _ := Rel.fin hall 11 (by decide)
                    have qe12 : vs 12 = _ := Rel.fin hall 12 (by decide)
                    have qe13 : IsW wq _ _ (vs 13) := Rel.fin hall 13 (by decide)
                    have qe14 : IsW wq _ _ (vs 14) := Rel.fin hall 14 (by decide)
                    have qe15 : vs 15 = _ := Rel.fin hall 15 (by decide)
                    clear hall HF uv ue
                    obtain ⟨t, C1, m1, l1, C2, m2, l2, fi2, fn2, fd2, nn2, dd2, ev2, hI2⟩ := qe14
                    have HMq := HMr.out.below hq
                    have HRq := (HMq.row c hcn).blk
                    obtain ⟨css', hput⟩ := HMq.put hcn (show k < i + 1 by omega) hI2
                    have HN2 : Hid (SkRel gL i mx c S gs1 cp1 clS g9 s A1 k1 c1 A2 k2 c2 fi fn fd w (.int .i64 ((k : Int) + 1)) (put6o wq (gs1 c) (k * 6) (.bool t) (.slice C1 m1 l1) (.slice C2 m2 l2) (.bool fi2) (.int .i64 fn2) (.int .i64 fd2))) := Lib.hid
                      ⟨k + 1, css', by simp, by omega, by omega, Lib.hid (hput.congr fun r c2 _ _ => by rw [HQ0.out.2]; exact HSTEP.out r c2), Lib.hid (blk_put6o (K9.out.belowS hq) (HN9.out c hcn) _ _ _ _ _ _), Lib.hid (by
                        rw [HQ0.out.2]
                        obtain ⟨_, _, _, _, _, _, _, _, _, _, n7, d7, e7, h7⟩ := HI9.out.below hq
                        exact ⟨_, _, _, _, _, _, _, _, _, _, n7, d7, e7, h7.put6o HRq (by decide) _ _ _ _ _ _⟩), Lib.hid (put6o_below (below_next (Nat.le_refl _) HB.out hq) hgB _ _ _ _ _ _)⟩
                    have z0 := HRq.frz (k * 6)
                    have d0 := HRq.at (k * 6) hx0
                    have z1 := HRq.frz (k * 6 + 1)
                    have d1 := HRq.at (k * 6 + 1) hx1
                    have z2 := HRq.frz (k * 6 + 2)
                    have d2 := HRq.at (k * 6 + 2) hx2
                    have z3 := HRq.frz (k * 6 + 3)
                    have d3 := HRq.at (k * 6 + 3) hx3
                    have z4 := HRq.frz (k * 6 + 4)
                    have d4 := HRq.at (k * 6 + 4) hx4
                    have z5 := HRq.frz (k * 6 + 5)
                    have d5 := HRq.at (k * 6 + 5) hx5
                    unfold put6o at HN2
                    clear HRq HMq hput hI2 hq hx0 hx1 hx2 hx3 hx4 hx5 HMr K9 HI HI9 HB HDG HSTEP HRB HQ0 qe0 qe1 qe2 qe3 qe4 qe5 qe6 qe7 qe8 qe9 qe10 qe11 qe12 qe13
                    go_wp2
                    go_roundw
                    case rel => exact HN2.out
                    case measure => simp [intOf]; omega
                  · have hcE : i + 1 ≤ k := by omega
                    have hTL : ∀ j, j < c → scaleM S c (S c c)⁻¹ c j = 0 := fun j hj => by
                      unfold scaleM
                      rw [if_pos rfl, HSL.out j hj]; exact rat_zero _
                    have H6 : Hid (SiRel gL i mx c (scaleM S c (S c c)⁻¹) gs1 cp1 clS w (.int .i64 0) wr) := Lib.hid ⟨0, css, rfl, Nat.zero_le _, Lib.hid (HMr.out.congr fun r c2 hr hc => (sc_end (n := k) (fun j hj => HSL.out j hj) (by omega)).trans (cl_start _ c c r c2).symm), HB⟩
                    clear HMr K9 HI9 HB
                    have HTD : Hid (∀ r k, r < i → k ≤ i → r ≠ c → Dg (D30 ^ mx) (scaleM S c (S c c)⁻¹ r k + -1 * scaleM S c (S c c)⁻¹ r c * scaleM S c (S c c)⁻¹ c k)) := Lib.hid (fun r k hr hk e => by
                      have h := HND.out r k hr hk
                      rw [hSt.out r k] at h
                      unfold clearM at h
                      rw [if_neg e] at h
                      rw [rat_sub]; exact h)
                    have HTL := Lib.hid hTL
                    clear hTL
                    generalize hT : scaleM S c (S c c)⁻¹ = T at *
                    have HT := Lib.hid hT
                    clear hT
                    have HM1 := Lib.hid (fun W => wideOf_any vf_minus W)
                    rw [qf_minus] at HM1
                    go_wp2
                    go_loopw [12] (fun rv w2 => SiRel gL i mx c T gs1 cp1 clS w rv w2) (fun rv _ => i - (intOf rv).toNat)
                    case atStart => exact H6.out
                    case round =>
                      obtain ⟨r, css, rfl, hr, HMr, HB⟩ := hrel
                      clear H6
                      by_cases hri : r < i
                      · obtain ⟨s', B1, j1, d1, B2, j2, d2, fi', fn', fd', nn, dd, hx0, hx1, hx2, hx3, hx4, hx5, hpp⟩ := (HMr.out.row r hri).els c (by omega)
                        rw [cl_at T c c r c (Nat.le_refl c)] at hpp
                        have HI : Hid (IsW wr (T r c) mx _) := Lib.hid ⟨_, _, _, _, _, _, _, _, _, _, _, _, rfl, hpp⟩
                        have HRB := Lib.hid (HMr.out.row r hri).blk
                        clear hpp
                        generalize hf0 : T r c = f0 at *
                        have HF0 := Lib.hid hf0
                        clear hf0
                        have hci1 : (c : Int) < (i : Int) + 1 := by omega
                        go_upto_region 26 with (fail)
                        refine Rel.wp_region_rel 11 (by kernel_rfl) (by kernel_rfl) (fun F hF => ?_)
                        simp only [List.take_succ_cons, List.take_zero, List.drop_succ_cons, List.drop_zero, Rel.putL] at hF ⊢
                        have HF := Lib.hid hF
                        clear hF
                        have uv := @Rel.upon_value Tryz.prog
                        have ue := @Rel.upon_enter Tryz.prog
                        apply Rel.rel_pure
                        apply Exists.intro
                        refine ⟨fun vs wq hq hdp R hR => ?_, ?_⟩
                        · (rw [HF.out, Rel.stepAt_eq]; clear hdp; skip; go_simp; exact hR)
                        refine Rel.rel_law (S := fun v w' => IsW w' (-1) 2 v) (isW_mono _ _) (fun vs wq hq hdp => ?_) ?_
                        · (rw [HF.out, Rel.stepAt_eq]; have qd0 : vs 0 = _ := Rel.dep hdp 0 (by kernel_rfl); clear hdp; skip; go_simp; refine (HM1.out _).mono ?_; rintro e w7 ⟨v, rfl, hv, hb⟩; exact ⟨_, rfl, hv, hb⟩)
                        apply Rel.rel_pure
                        apply Exists.intro
                        refine ⟨fun vs wq hq hdp R hR => ?_, ?_⟩
                        · (rw [HF.out, Rel.stepAt_eq]; clear hdp; skip; go_simp; exact hR)
                        apply Rel.rel_pure
                        apply Exists.intro
                        refine ⟨fun vs wq hq hdp R hR => ?_, ?_⟩
                        · (rw [HF.out, Rel.stepAt_eq]; clear hdp; skip; go_simp; exact hR)
                        apply Rel.rel_pure
                        apply Exists.intro
                        refine ⟨fun vs wq hq hdp R hR => ?_, ?_⟩
                        · (rw [HF.out, Rel.stepAt_eq]; have qd2 : vs 2 = _ := Rel.dep hdp 2 (by kernel_rfl); have qd3 : vs 3 = _ := Rel.dep hdp 3 (by kernel_rfl); clear hdp; skip; go_simp; exact hR)
                        apply Rel.rel_pure
                        apply Exists.intro
                        refine ⟨fun vs wq hq hdp R hR => ?_, ?_⟩
                        · (rw [HF.out, Rel.stepAt_eq]; have qd4 : vs 4 = _ := Rel.dep hdp 4 (by kernel_rfl); clear hdp; have y := (HMr.out.below hq).top.at r (HMr.out.cell r hri); go_simp; exact hR)
                        apply Rel.rel_pure
                        apply Exists.intro
                        refine ⟨fun vs wq hq hdp R hR => ?_, ?_⟩
                        · (rw [HF.out, Rel.stepAt_eq]; clear hdp; skip; go_simp; exact hR)
                        apply Rel.rel_pure
                        apply Exists.intro
                        refine ⟨fun vs wq hq hdp R hR => ?_, ?_⟩
                        · (rw [HF.out, Rel.stepAt_eq]; have qd5 : vs 5 = _ := Rel.dep hdp 5 (by kernel_rfl); have qd6 : vs 6 = _ := Rel.dep hdp 6 (by kernel_rfl); clear hdp; skip; go_simp; exact hR)
                        apply Rel.rel_pure
                        apply Exists.intro
                        refine ⟨fun vs wq hq hdp R hR => ?_, ?_⟩
                        · (rw [HF.out, Rel.stepAt_eq]; have qd7 : vs 7 = _ := Rel.dep hdp 7 (by kernel_rfl); clear hdp; have x0 := (HRB.out.belowS hq).at (c * 6) hx0; have x1 := (HRB.out.belowS hq).at (c * 6 + 1) hx1; have x2 := (HRB.out.belowS hq).at (c * 6 + 2) hx2; have x3 := (HRB.out.belowS hq).at (c * 6 + 3) hx3; have x4 := (HRB.out.belowS hq).at (c * 6 + 4) hx4; have x5 := (HRB.out.belowS hq).at (c * 6 + 5) hx5; go_simp; exact hR)
                        refine Rel.rel_law (S := fun v w' => IsW w' (-1 * f0) (2 + mx) v) (isW_mono _ _) (fun vs wq hq hdp => ?_) ?_
                        · (rw [HF.out, Rel.stepAt_eq]; have qd1 : IsW wq _ _ (vs 1) := Rel.dep hdp 1 (by kernel_rfl); have qd8 : vs 8 = _ := Rel.dep hdp 8 (by kernel_rfl); clear hdp; skip; go_simp; refine (wideMul_any wq qd1 (HI.out.below hq) (by omega) (by omega) (by omega) (by omega)).mono ?_; rintro e w7 ⟨v, rfl, hv, hb⟩; exact ⟨_, rfl, hv, hb⟩)
                        refine Rel.rel_alloc (cs := #[.bool false, .slice none 0 0, .slice none 0 0, .bool false, .int .i64 0, .int .i64 0]) (t := 107) (fun vs wq hq hdp R hR => ?_) ?_
                        · (rw [HF.out, Rel.stepAt_eq]; clear hdp; go_simp; exact hR)
                        refine Rel.rel_end (fun vs wq hq hall => ?_)
                        rw [HF.out]
                        have qe0 : vs 0 = _ := Rel.fin hall 0 (by decide)
                        have qe1 : IsW wq _ _ (vs 1) := Rel.fin hall 1 (by decide)
                        have qe2 : vs 2 = _ := Rel.fin hall 2 (by decide)
                        have qe3 : vs 3 = _ := Rel.fin hall 3 (by decide)
                        have qe4 : vs 4 = _ := Rel.fin hall 4 (by decide)
                        have qe5 : vs 5 = _ := Rel.fin hall 5 (by decide)
                        have qe6 : vs 6 = _ := Rel.fin hall 6 (by decide)
                        have qe7 : vs 7 = _ := Rel.fin hall 7 (by decide)
                        have qe8 : vs 8 = _ := Rel.fin hall 8 (by decide)
                        have qe9 : IsW wq _ _ (vs 9) := Rel.fin hall 9 (by decide)
                        have qe10 : Rel.NewB _ _ _ (vs 10) wq := Rel.fin hall 10 (by decide)
                        clear hall HF uv ue
                        obtain ⟨g13, eg13, hg13, hblk⟩ := qe10
                        obtain ⟨s, A1, k1, c1, A2, k2, c2, fi, fn, fd, nn2, dd2, ev9, hp9⟩ := qe9
                        have K13 : Blk wq g13 107 #[.bool false, .slice none 0 0, .slice none 0 0, .bool false, .int .i64 0, .int .i64 0] := hblk
                        obtain ⟨W6, hW6⟩ : ∃ W6, W6 = put6 wq g13 (.bool s) (.slice A1 k1 c1) (.slice A2 k2 c2) (.bool fi) (.int .i64 fn) (.int .i64 fd) := ⟨_, rfl⟩
                        have K6 : Hid (Blk W6 g13 107 #[.bool s, .slice A1 k1 c1, .slice A2 k2 c2, .bool fi, .int .i64 fn, .int .i64 fd]) := Lib.hid (by rw [hW6]; exact put6_blk K13 _ _ _ _ _ _)
                        have hb6 : Below wr.heap.size wr W6 := by rw [hW6]; exact put6_below hq hg13 _ _ _ _ _ _
                        have HI6 : Hid (IsW W6 (-1 * f0) (2 + mx) (.agg #[.bool s, .slice A1 k1 c1, .slice A2 k2 c2, .bool fi, .int .i64 fn, .int .i64 fd])) := Lib.hid (by rw [hW6]; exact ⟨_, _, _, _, _, _, _, _, _, _, nn2, dd2, rfl, hp9.put6 K13 (by decide) _ _ _ _ _ _⟩)
                        have HM6 := Lib.hid (HMr.out.below hb6)
                        have HB6 := Lib.hid (below_next (Nat.le_refl _) HB.out hb6)
                        have HN13 := Lib.hid (fun r (hr : r < i) => show gs1 r ≠ g13 by have := (HMr.out.row r hr).blk.lt; omega)
                        have z0 := K13.frz 0
                        have z1 := K13.frz 1
                        have z2 := K13.frz 2
                        have z3 := K13.frz 3
                        have z4 := K13.frz 4
                        have z5 := K13.frz 5
                        have d0 := K13.at 0 (v := .bool false) rfl
                        have d1 := K13.at 1 (v := .slice none 0 0) rfl
                        have d2 := K13.at 2 (v := .slice none 0 0) rfl
                        have d3 := K13.at 3 (v := .bool false) rfl
                        have d4 := K13.at 4 (v := .int .i64 0) rfl
                        have d5 := K13.at 5 (v := .int .i64 0) rfl
                        unfold put6 at hW6
                        have HW6 := Lib.hid hW6
                        clear hW6 hb6 hp9 K13 hblk hg13 hq HMr HB HI HRB hx0 hx1 hx2 hx3 hx4 hx5 qe0 qe1 qe2 qe3 qe4 qe5 qe6 qe7 qe8
                        go_upto_region 27 with (fail)
                        rw [← HW6.out]
                        clear HW6 z0 z1 z2 z3 z4 z5 d0 d1 d2 d3 d4 d5
                        by_cases hrc : r = c
                        · have HN : Hid (SiRel gL i mx c T gs1 cp1 clS w (.int .i64 ((r : Int) + 1)) W6) := Lib.hid ⟨r + 1, css, by simp, hri, Lib.hid (HM6.out.congr fun r' c2 _ _ => cl_skip T (.inl hrc) r' c2), HB6⟩
                          have heq : ((r : Int) == (c : Int)) = true := by simp [hrc]
                          have heq2 : ((r : Int) != (c : Int)) = false := by simp [hrc]
                          clear hrc HM6 HB6 HI6 K6 HN13 HF0
                          go_wp2
                          refine wp_loop_rounds 1 ?_
                          rw [rounds_succ]
                          go_wp2
                          go_roundw
                          case rel => exact HN.out
                          case measure => simp [intOf]; omega
                        · have heq := cast_ne hrc
                          have heq2 : ((r : Int) != (c : Int)) = true := by simp; omega
                          have HRK := Lib.hid hrc
                          have H7 : Hid (SjRel gL i mx c r T gs1 cp1 clS g13 s A1 k1 c1 A2 k2 c2 fi fn fd w (.int .i64 (c : Int)) W6) := Lib.hid ⟨c, css, rfl, Nat.le_refl _, by omega, HM6, K6, Lib.hid (by rw [HF0.out]; exact HI6.out), HB6⟩
                          clear hrc HM6 HB6 HI6 K6 HF0
                          go_wp2
                          go_loopw [14] (fun kv w2 => SjRel gL i mx c r T gs1 cp1 clS g13 s A1 k1 c1 A2 k2 c2 fi fn fd w kv w2) (fun kv _ => i + 1 - (intOf kv).toNat)
                          case atStart => exact H7.out
                          case round =>
                            obtain ⟨k, css, rfl, hck, hk, HMr, K9, HI9, HB⟩ := hrel
                            clear H7
                            by_cases hki : k ≤ i
                            · obtain ⟨s', B1, j1, d1, B2, j2, d2, fi', fn', fd', nn, dd, hx0, hx1, hx2, hx3, hx4, hx5, hpp⟩ := (HMr.out.row r hri).els k (by omega)
                              obtain ⟨s'', D1, i1, b1, D2, i2, b2, fi'', fn'', fd'', nn3, dd3, hk0, hk1, hk2, hk3, hk4, hk5, hpk⟩ := (HMr.out.row c hcn).els k (by omega)
                              rw [cl_at T c c r k (Nat.le_refl k)] at hpp
                              rw [cl_row] at hpk
                              have HI : Hid (IsW wr (T r k) mx _) := Lib.hid ⟨_, _, _, _, _, _, _, _, _, _, _, _, rfl, hpp⟩
                              have HK : Hid (IsW wr (T c k) mx _) := Lib.hid ⟨_, _, _, _, _, _, _, _, _, _, _, _, rfl, hpk⟩
                              have HRB := Lib.hid (HMr.out.row r hri).blk
                              have HKB := Lib.hid (HMr.out.row c hcn).blk
                              have HSTEP := Lib.hid (fun r' c2 => cl_step T (k := c) (c' := k) HRK.out hck r' c2)
                              have HDG := Lib.hid (HTD.out r k hri hki HRK.out)
                              have hgB := HMr.out.low r hri
                              clear hpp hpk
                              generalize hq0 : T r k = q0 at *
                              generalize hp0 : T c k = p0 at *
                              obtain ⟨b0, hb0⟩ : ∃ b0, b0 = -1 * T r c := ⟨_, rfl⟩
                              rw [← hb0] at HI9 HDG
                              have HQ0 := Lib.hid (And.intro hq0 (And.intro hp0 hb0))
                              clear hq0 hp0 hb0
                              have hki1 : (k : Int) < (i : Int) + 1 := by omega
                              go_upto_region 30 with (fail)
                              refine Rel.wp_region_rel 24 (by kernel_rfl) (by kernel_rfl) (fun F hF => ?_)
                              simp only [List.take_succ_cons, List.take_zero, List.drop_succ_cons, List.drop_zero, Rel.putL] at hF ⊢
                              have HF := Lib.hid hF
                              clear hF
                              have uv := @Rel.upon_value Tryz.prog
                              have ue := @Rel.upon_enter Tryz.prog
                              apply Rel.rel_pure
                              apply Exists.intro
                              refine ⟨fun vs wq hq hdp R hR => ?_, ?_⟩
                              · (rw [HF.out, Rel.stepAt_eq]; clear hdp; skip; go_simp; exact hR)
                              apply Rel.rel_pure
                              apply Exists.intro
                              refine ⟨fun vs wq hq hdp R hR => ?_, ?_⟩
                              · (rw [HF.out, Rel.stepAt_eq]; clear hdp; skip; go_simp; exact hR)
                              apply Rel.rel_pure
                              apply Exists.intro
                              refine ⟨fun vs wq hq hdp R hR => ?_, ?_⟩
                              · (rw [HF.out, Rel.stepAt_eq]; have qd0 : vs 0 = _ := Rel.dep hdp 0 (by kernel_rfl); have qd1 : vs 1 = _ := Rel.dep hdp 1 (by kernel_rfl); clear hdp; skip; go_simp; exact hR)
                              apply Rel.rel_pure
                              apply Exists.intro
                              refine ⟨fun vs wq hq hdp R hR => ?_, ?_⟩
                              · (rw [HF.out, Rel.stepAt_eq]; have qd2 : vs 2 = _ := Rel.dep hdp 2 (by kernel_rfl); clear hdp; have y := (HMr.out.below hq).top.at r (HMr.out.cell r hri); go_simp; exact hR)
                              apply Rel.rel_pure
                              apply Exists.intro
                              refine ⟨fun vs wq hq hdp R hR => ?_, ?_⟩
                              · (rw [HF.out, Rel.stepAt_eq]; clear hdp; skip; go_simp; exact hR)
                              apply Rel.rel_pure
                              apply Exists.intro
                              refine ⟨fun vs wq hq hdp R hR => ?_, ?_⟩
                              · (rw [HF.out, Rel.stepAt_eq]; clear hdp; skip; go_simp; exact hR)
                              apply Rel.rel_pure
                              apply Exists.intro
                              refine ⟨fun vs wq hq hdp R hR => ?_, ?_⟩
                              · (rw [HF.out, Rel.stepAt_eq]; clear hdp; skip; go_simp; exact hR)
                              apply Rel.rel_pure
                              apply Exists.intro
                              refine ⟨fun vs wq hq hdp R hR => ?_, ?_⟩
                              · (rw [HF.out, Rel.stepAt_eq]; have qd5 : vs 5 = _ := Rel.dep hdp 5 (by kernel_rfl); have qd6 : vs 6 = _ := Rel.dep hdp 6 (by kernel_rfl); clear hdp; skip; go_simp; exact hR)
                              apply Rel.rel_pure
                              apply Exists.intro
                              refine ⟨fun vs wq hq hdp R hR => ?_, ?_⟩
                              · (rw [HF.out, Rel.stepAt_eq]; have qd7 : vs 7 = _ := Rel.dep hdp 7 (by kernel_rfl); clear hdp; have y := (HMr.out.below hq).top.at r (HMr.out.cell r hri); go_simp; exact hR)
                              apply Rel.rel_pure
                              apply Exists.intro
                              refine ⟨fun vs wq hq hdp R hR => ?_, ?_⟩
                              · (rw [HF.out, Rel.stepAt_eq]; clear hdp; skip; go_simp; exact hR)
                              apply Rel.rel_pure
                              apply Exists.intro
                              refine ⟨fun vs wq hq hdp R hR => ?_, ?_⟩
                              · (rw [HF.out, Rel.stepAt_eq]; have qd8 : vs 8 = _ := Rel.dep hdp 8 (by kernel_rfl); have qd9 : vs 9 = _ := Rel.dep hdp 9 (by kernel_rfl); clear hdp; skip; go_simp; exact hR)
                              apply Rel.rel_pure
                              apply Exists.intro
                              refine ⟨fun vs wq hq hdp R hR => ?_, ?_⟩
                              · (rw [HF.out, Rel.stepAt_eq]; have qd10 : vs 10 = _ := Rel.dep hdp 10 (by kernel_rfl); clear hdp; have x0 := (HRB.out.belowS hq).at (k * 6) hx0; have x1 := (HRB.out.belowS hq).at (k * 6 + 1) hx1; have x2 := (HRB.out.belowS hq).at (k * 6 + 2) hx2; have x3 := (HRB.out.belowS hq).at (k * 6 + 3) hx3; have x4 := (HRB.out.belowS hq).at (k * 6 + 4) hx4; have x5 := (HRB.out.belowS hq).at (k * 6 + 5) hx5; go_simp; exact hR)
                              apply Rel.rel_pure
                              apply Exists.intro
                              refine ⟨fun vs wq hq hdp R hR => ?_, ?_⟩
                              · (rw [HF.out, Rel.stepAt_eq]; clear hdp; have y0 := (K9.out.belowS hq).at 0 (v := .bool s) rfl; have y1 := (K9.out.belowS hq).at 1 (v := .slice A1 k1 c1) rfl; have y2 := (K9.out.belowS hq).at 2 (v := .slice A2 k2 c2) rfl; have y3 := (K9.out.belowS hq).at 3 (v := .bool fi) rfl; have y4 := (K9.out.belowS hq).at 4 (v := .int .i64 fn) rfl; have y5 := (K9.out.belowS hq).at 5 (v := .int .i64 fd) rfl; go_simp; exact hR)
                              apply Rel.rel_pure
                              apply Exists.intro
                              refine ⟨fun vs wq hq hdp R hR => ?_, ?_⟩
                              · (rw [HF.out, Rel.stepAt_eq]; clear hdp; skip; go_simp; exact hR)
                              apply Rel.rel_pure
                              apply Exists.intro
                              refine ⟨fun vs wq hq hdp R hR => ?_, ?_⟩
                              · (rw [HF.out, Rel.stepAt_eq]; clear hdp; skip; go_simp; exact hR)
                              apply Rel.rel_pure
                              apply Exists.intro
                              refine ⟨fun vs wq hq hdp R hR => ?_, ?_⟩
                              · (rw [HF.out, Rel.stepAt_eq]; have qd13 : vs 13 = _ := Rel.dep hdp 13 (by kernel_rfl); have qd14 : vs 14 = _ := Rel.dep hdp 14 (by kernel_rfl); clear hdp; skip; go_simp; exact hR)
                              apply Rel.rel_pure
                              apply Exists.intro
                              refine ⟨fun vs wq hq hdp R hR => ?_, ?_⟩
                              · (rw [HF.out, Rel.stepAt_eq]; have qd15 : vs 15 = _ := Rel.dep hdp 15 (by kernel_rfl); clear hdp; have y := (HMr.out.below hq).top.at c (HMr.out.cell c hcn); go_simp; exact hR)
                              apply Rel.rel_pure
                              apply Exists.intro
                              refine ⟨fun vs wq hq hdp R hR => ?_, ?_⟩
                              · (rw [HF.out, Rel.stepAt_eq]; clear hdp; skip; go_simp; exact hR)
                              apply Rel.rel_pure
                              apply Exists.intro
                              refine ⟨fun vs wq hq hdp R hR => ?_, ?_⟩
                              · (rw [HF.out, Rel.stepAt_eq]; have qd16 : vs 16 = _ := Rel.dep hdp 16 (by kernel_rfl); have qd17 : vs 17 = _ := Rel.dep hdp 17 (by kernel_rfl); clear hdp; skip; go_simp; exact hR)
                              apply Rel.rel_pure
                              apply Exists.intro
                              refine ⟨fun vs wq hq hdp R hR => ?_, ?_⟩
                              · (rw [HF.out, Rel.stepAt_eq]; have qd18 : vs 18 = _ := Rel.dep hdp 18 (by kernel_rfl); clear hdp; have x0 := (HKB.out.belowS hq).at (k * 6) hk0; have x1 := (HKB.out.belowS hq).at (k * 6 + 1) hk1; have x2 := (HKB.out.belowS hq).at (k * 6 + 2) hk2; have x3 := (HKB.out.belowS hq).at (k * 6 + 3) hk3; have x4 := (HKB.out.belowS hq).at (k * 6 + 4) hk4; have x5 := (HKB.out.belowS hq).at (k * 6 + 5) hk5; go_simp; exact hR)
                              refine Rel.rel_law (S := fun v w' => IsW w' (b0 * p0) (2 + mx + mx) v) (isW_mono _ _) (fun vs wq hq hdp => ?_) ?_
                              · (rw [HF.out, Rel.stepAt_eq]; have qd12 : vs 12 = _ := Rel.dep hdp 12 (by kernel_rfl); have qd19 : vs 19 = _ := Rel.dep hdp 19 (by kernel_rfl); clear hdp; skip; go_simp; refine (wideMul_any wq (HI9.out.below hq) (HK.out.below hq) (by omega) (by omega) (by omega) (by omega)).mono ?_; rintro e w7 ⟨v, rfl, hv, hb⟩; exact ⟨_, rfl, hv, hb⟩)
                              refine Rel.rel_law (S := fun v w' => IsW w' (q0 + b0 * p0) (mx + (2 + mx + mx) + 1) v) (isW_mono _ _) (fun vs wq hq hdp => ?_) ?_
                              · (rw [HF.out, Rel.stepAt_eq]; have qd11 : vs 11 = _ := Rel.dep hdp 11 (by kernel_rfl); have qd20 : IsW wq _ _ (vs 20) := Rel.dep hdp 20 (by kernel_rfl); clear hdp; skip; go_simp; refine (wideAdd_any wq (HI.out.below hq) qd20 (by omega) (by omega) (by omega) (by omega)).mono ?_; rintro e w7 ⟨v, rfl, hv, hb⟩; exact ⟨_, rfl, hv, hb⟩)
                              refine Rel.rel_law (S := fun v w' => IsW w' (q0 + b0 * p0) mx v) (isW_mono _ _) (fun vs wq hq hdp => ?_) ?_
                              · (rw [HF.out, Rel.stepAt_eq]; have qd21 : IsW wq _ _ (vs 21) := Rel.dep hdp 21 (by kernel_rfl); clear hdp; skip; go_simp; refine (lowest_any wq qd21 (by omega)).mono ?_; rintro e w7 ⟨v, rfl, hv, hb⟩; exact ⟨_, rfl, hv.le HDG.out, hb⟩)
                              apply Rel.rel_pure
                              apply Exists.intro
                              refine ⟨fun vs wq hq hdp R hR => ?_, ?_⟩
                              · (rw [HF.out, Rel.stepAt_eq]; have qd3 : vs 3 = _ := Rel.dep hdp 3 (by kernel_rfl); have qd4 : vs 4 = _ := Rel.dep hdp 4 (by kernel_rfl); clear hdp; skip; go_simp; exact hR)
                              refine Rel.rel_end (fun vs wq hq hall => ?_)
                              rw [HF.out]
                              have qe0 : vs 0 = _ := Rel.fin hall 0 (by decide)
                              have qe1 : vs 1 = _ := Rel.fin hall 1 (by decide)
                              have qe2 : vs 2 = _ := Rel.fin hall 2 (by decide)
                              have qe3 : vs 3 = _ := Rel.fin hall 3 (by decide)
                              have qe4 : vs 4 = _ := Rel.fin hall 4 (by decide)
                              have qe5 : vs 5 = _ := Rel.fin hall 5 (by decide)
                              have qe6 : vs 6 = _ := Rel.fin hall 6 (by decide)
                              have qe7 : vs 7 = _ := Rel.fin hall 7 (by decide)
                              have qe8 : vs 8 = _ := Rel.fin hall 8 (by decide)
                              have qe9 : vs 9 = _ := Rel.fin hall 9 (by decide)
                              have qe10 : vs 10 = _ := Rel.fin hall 10 (by decide)
                              have qe11 : vs 11 = _ := Rel.fin hall 11 (by decide)
                              have qe12 : vs 12 = _ := Rel.fin hall 12 (by decide)
                              have qe13 : vs 13 = _ := Rel.fin hall 13 (by decide)
                              have qe14 : vs 14 = _ := Rel.fin hall 14 (by decide)
                              have qe15 : vs 15 = _ := Rel.fin hall 15 (by decide)
                              have qe16 : vs 16 = _ := Rel.fin hall 16 (by decide)
                              have qe17 : vs 17 = _ := Rel.fin hall 17 (by decide)
                              have qe18 : vs 18 = _ := Rel.fin hall 18 (by decide)
                              have qe19 : vs 19 = _ := Rel.fin hall 19 (by decide)
                              have qe20 : IsW wq _ _ (vs 20) := Rel.fin hall 20 (by decide)
                              have qe21 : IsW wq _ _ (vs 21) := Rel.fin hall 21 (by decide)
                              have qe22 : IsW wq _ _ (vs 22) := Rel.fin hall 22 (by decide)
                              have qe23 : vs 23 = _ := Rel.fin hall 23 (by decide)
                              clear hall HF uv ue
                              obtain ⟨t, C1, m1, l1, C2, m2, l2, fi2, fn2, fd2, nn2, dd2, ev2, hI2⟩ := qe22
                              have HMq := HMr.out.below hq
                              have HRq := (HMq.row r hri).blk
                              obtain ⟨css', hput⟩ := HMq.put hri (show k < i + 1 by omega) hI2
                              have HN2 : Hid (SjRel gL i mx c r T gs1 cp1 clS g13 s A1 k1 c1 A2 k2 c2 fi fn fd w (.int .i64 ((k : Int) + 1)) (put6o wq (gs1 r) (k * 6) (.bool t) (.slice C1 m1 l1) (.slice C2 m2 l2) (.bool fi2) (.int .i64 fn2) (.int .i64 fd2))) := Lib.hid
                                ⟨k + 1, css', by simp, by omega, by omega, Lib.hid (hput.congr fun r' c2 _ _ => by
                                  have h := HSTEP.out r' c2
                                  rw [← h, HQ0.out.2.2]
                                  rw [rat_sub]), Lib.hid (blk_put6o (K9.out.belowS hq) (HN13.out r hri) _ _ _ _ _ _), Lib.hid (by
                                  rw [← HQ0.out.2.2]
                                  obtain ⟨_, _, _, _, _, _, _, _, _, _, n7, d7, e7, h7⟩ := HI9.out.below hq
                                  exact ⟨_, _, _, _, _, _, _, _, _, _, n7, d7, e7, h7.put6o HRq (by decide) _ _ _ _ _ _⟩), Lib.hid (put6o_below (below_next (Nat.le_refl _) HB.out hq) hgB _ _ _ _ _ _)⟩
                              have z0 := HRq.frz (k * 6)
                              have d0 := HRq.at (k * 6) hx0
                              have z1 := HRq.frz (k * 6 + 1)
                              have d1 := HRq.at (k * 6 + 1) hx1
                              have z2 := HRq.frz (k * 6 + 2)
                              have d2 := HRq.at (k * 6 + 2) hx2
                              have z3 := HRq.frz (k * 6 + 3)
                              have d3 := HRq.at (k * 6 + 3) hx3
                              have z4 := HRq.frz (k * 6 + 4)
                              have d4 := HRq.at (k * 6 + 4) hx4
                              have z5 := HRq.frz (k * 6 + 5)
                              have d5 := HRq.at (k * 6 + 5) hx5
                              unfold put6o at HN2
                              clear HRq HMq hput hI2 hq hx0 hx1 hx2 hx3 hx4 hx5 hk0 hk1 hk2 hk3 hk4 hk5 HMr K9 HI HK HI9 HB HDG HSTEP HRB HKB HQ0 qe0 qe1 qe2 qe3 qe4 qe5 qe6 qe7 qe8 qe9 qe10 qe11 qe12 qe13 qe14 qe15 qe16 qe17 qe18 qe19 qe20 qe21
                              go_wp2
                              go_roundw
                              case rel => exact HN2.out
                              case measure => simp [intOf]; omega
                            · have HN : Hid (SiRel gL i mx c T gs1 cp1 clS w (.int .i64 ((r : Int) + 1)) wr) := Lib.hid ⟨r + 1, css, by simp, hri, Lib.hid (HMr.out.congr fun r' c2 _ hc => cl_next T (n := k) (by omega)), HB⟩
                              clear HMr K9 HI9 HB
                              go_wp2
                              go_roundw
                              case rel => exact HN.out
                              case measure => simp [intOf]; omega
                      · obtain hri2 : r = i := by omega
                        have HN : Hid (SxRel gL i mx M0 w (.int .i64 ((c : Int) + 1)) wr) := Lib.hid ⟨c + 1, stageM M p c, gs1, cp1, clS, css, by simp, by omega, Lib.hid (HNX.out.more (pow_nextD (mD c))), Lib.hid (HMr.out.congr fun r' c2 hr' _ => by
                          rw [hri2]
                          exact (cl_end (fun j hj => HTL.out j hj) hr').trans (hSt.out r' c2).symm), HB⟩
                        have hge : i ≤ r := by omega
                        clear HMr HB HT hSt HNX HTD HND HSD HSL hSk HS HTL hri2
                        go_wp2
                        go_roundw
                        case rel => exact HN.out
                        case measure => simp [intOf]; omega
            · obtain rfl : p = i := by omega
              have HF : Hid (SwRet M0 p mx w (.returned (.tuple #[.slice none 0 0, .bool false])) wr) := Lib.hid (sw_no (fun x hx => col_none HS.out.unit hcn (by omega) (fun r h1 h2 => HZ.out r h1 h2) x ((Only.iff HS.out.sol).2 hx)) HB.out)
              clear HS HZ HMr HB
              go_wp2
              go_ret2
              exact HF.out
        · obtain rfl : c = i := by omega
          obtain ⟨wo, rfl⟩ : ∃ wo : World, wo = wr := ⟨_, rfl⟩
          have HU := Lib.hid HS.out.unit
          have HIF := Lib.hid (fun x => Only.iff (x := x) HS.out.sol)
          have H8 : Hid (SyRel c mx (fun j => M j c) wo (.int .i64 0) (.slice (some ⟨wo.heap.size, 0, none⟩) 0 0) (wo.alloc (.cells #[] 107))) := Lib.hid ⟨0, [], rfl, Nat.zero_le _, Lib.hid (OwnW.lit0 wo _ _), Lib.hid ((Below.refl _ _).alloc (Nat.le_refl _) _)⟩
          have hwo := HB.out.size
          clear HS
          go_wp2
          go_loopw [16, 15] (fun jv ov w2 => SyRel c mx (fun j => M j c) wo jv ov w2) (fun jv _ _ => c - (intOf jv).toNat)
          case atStart => exact H8.out
          case round =>
            obtain ⟨j, cs, rfl, hj, HO, HBo⟩ := hrel
            clear H8
            have HMq := Lib.hid (HMr.out.below HBo.out)
            obtain ⟨Av, cv, hlv, _⟩ := HO.out.form
            subst hlv
            by_cases hlt : j < c
            · obtain ⟨s, A1, k1, c1, A2, k2, c2, fi, fn, fd, nn, dd, x0, x1, x2, x3, x4, x5, hpp⟩ := (HMq.out.row j hlt).els c (by omega)
              have y := HMq.out.top.at j (HMq.out.cell j hlt)
              have hrb := (HMq.out.row j hlt).blk
              have x0 := hrb.at (c * 6) x0
              have x1 := hrb.at (c * 6 + 1) x1
              have x2 := hrb.at (c * 6 + 2) x2
              have x3 := hrb.at (c * 6 + 3) x3
              have x4 := hrb.at (c * 6 + 4) x4
              have x5 := hrb.at (c * 6 + 5) x5
              have HNX := Lib.hid (fun (w2 : World) v' ca tt hown hg => OwnW.push (w2 := w2) (v' := v') (ca := ca) (t := tt) (f := fun j => M j c) HO.out (Below.refl _ _) hpp hown hg)
              unfold six at HNX
              have HOA := Lib.hid (World.ownsRow.alloc HO.out.row (.cells #[.bool s, .slice A1 k1 c1, .slice A2 k2 c2, .bool fi, .int .i64 fn, .int .i64 fd] 107))
              have HBN := Lib.hid (fun (w2 : World) (hg : (wr.alloc (.cells #[.bool s, .slice A1 k1 c1, .slice A2 k2 c2, .bool fi, .int .i64 fn, .int .i64 fd] 107)).grownBy w2 (Value.slice Av j cv).ownBlock) => (below_next (Nat.le_refl _) HBo.out ((Below.refl wr.heap.size wr).alloc (Nat.le_refl _) _)).trans (grown_below hg (fun g e => (ownsRow_block HO.out.row e).choose_spec.2.1) (Nat.le_trans HBo.out.size ((Below.refl wr.heap.size wr).alloc (Nat.le_refl _) _).size)))
              have hs1 := HBo.out.size
              clear hpp hrb HO HBo HMq
              go_wp2_with (at_builtin; refine wpList_append_own_at _ rfl (.tmp 161) (.tmp 169) 58 rfl wo.heap.size 107 iw (.agg #[.bool false, .slice none 0 0, .slice none 0 0, .bool false, .int .i64 0, .int .i64 0]) 6 80 Tryz.underlying58 wi wz0 wz1 wz2 rfl (by decide) _ _ _ rfl HOA.out ⟨wr.heap.size, 0, none⟩ 1 1 [.bool s, .slice A1 k1 c1, .slice A2 k2 c2, .bool fi, .int .i64 fn, .int .i64 fd] rfl rfl ?p1d ?p2d ?p3d ?p4d ?p5d ?_)
              try case p1d => exact news_six _ _ (by simp)
              try case p2d => exact ones_six
              try case p3d => first | (simp only [maxLen]; omega) | omega
              try case p4d => omega
              try case p5d => first | (simp only [World.size_alloc]; omega) | omega
              intro v' w3 hown' hg' _ he
              have HN3 : Hid (SyRel c mx (fun j => M j c) wo (.int .i64 ((j : Int) + 1)) v' w3) := Lib.hid ⟨j + 1, _, by simp, hlt, Lib.hid (HNX.out w3 v' _ _ hown' hg'), Lib.hid (HBN.out w3 hg')⟩
              clear hown' hg' he HNX HOA HBN x0 x1 x2 x3 x4 x5 y
              go_wp2
              go_roundw
              case rel => exact HN3.out
              case measure => simp [intOf]; omega
            · obtain rfl : j = c := by omega
              have HFIN : Hid (SwRet M0 j mx w (.returned (.tuple #[.slice Av j cv, .bool true])) wr) := Lib.hid (sw_yes ((HIF.out _).1 (unit_only HU.out (Nat.le_refl _) (fun r h1 h2 => by omega))) (HO.out.base hwo) (below_next (Nat.le_refl _) HB.out HBo.out))
              clear HO HBo HMq HMr HB HIF HU
              go_wp2
              go_ret2
              exact HFIN.out
end Go.Proofs.YthagenodiofgnaaGreat.Wide

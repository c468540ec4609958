/- The reference: a list of fractions of any size is given, if all are small. -/
import Derived.Test.YtionognmgcabbaaGreatMgHit06
import Derived.Test.YtionognmgcabbaaGreatMgHit15
import Derived.Test.YtionognmgcabbaaGreatMgHit10
import Derived.Test.YtionognmgcabbaaGreatMgHit21
import Derived.Test.YtionognmgcabbaaGreatMgHit11
import Derived.Test.YtionognmgcabbaaGreatMgHit19
import Derived.Test.YtionognmgcabbaaGreatMgHit05
import Derived.Test.YtionognmgcabbaaGreatMgHit07
namespace Go.Proofs.YtionognmgcabbaaGreat.Wide
open Go.RowKit Go.Proofs.YtionognmgcabbaaGreat Go.Proofs.YtionognmgcabbaaGreat.Base Go.Proofs.YtionognmgcabbaaGreat.Mem Go.Proofs.YtionognmgcabbaaGreat.RatM Go.Proofs.YtionognmgcabbaaGreat.BigM Go.Proofs.YtionognmgcabbaaGreat.Big Go.Proofs.YtionognmgcabbaaGreat.Fine Go.Proofs.YtionognmgcabbaaGreat.Blk Go.Proofs.YtionognmgcabbaaGreat.MemF Go.Proofs.YtionognmgcabbaaGreat.GiveM
set_option linter.unusedVariables false
set_option maxHeartbeats 2000000 in
set_option maxRecDepth 100000 in
theorem giveS_any {v : Value} {n m : Nat} {f : Nat → Rat} {cs : List Value} (w : World) (hx : OwnW w 0 v n f m cs) (hm : m ≤ 400000) (hn : n ≤ 1000) : Calls Tryz.prog 79 #[v] w (FsRet (gN f n) (gR f n) (smallAll f n) w) := by
  obtain ⟨A, c, rfl, _⟩ := hx.form
  have HX := Lib.hid hx
  obtain ⟨i2, ki, kz0, kz1, kz2⟩ := info_parts infoFr
  have H0 := Lib.hid (GRel.start f n w)
  clear hx
  go_enter Tryz.func79, Tryz.ntmps79
  go_wp2
  go_loopw [5, 4] (fun iv sv wr => GRel f n w iv sv wr) (fun iv _ _ => n - (intOf iv).toNat)
  case atStart => exact H0.out
  case round =>
    obtain ⟨i, rfl, hi, HO, HA, HB⟩ := hrel
    clear H0
    by_cases hlt : i < n
    · obtain ⟨g, s', B1, j1, e1, B2, j2, e2, fb, gn, gd, n', d', rfl, hgl, y0, y1, y2, y3, y4, y5, hp'⟩ := (HX.out.below HB.out).at hlt
      have HE : IsW wr (f i) m (.agg #[.bool s', .slice B1 j1 e1, .slice B2 j2 e2, .bool fb, .int .i64 gn, .int .i64 gd]) := ⟨_, _, _, _, _, _, _, _, _, _, _, _, rfl, hp'⟩
      have HG := Lib.hid (give_any wr HE hm)
      have HF : Hid (∀ w1 w2 v' cs t, smallQ (f i) = true → Below wr.heap.size wr w1 → _ → _ → _) := Lib.hid (fun w1 w2 v' cs t hv h1 hown hg => GRel.next (w1 := w1) (w2 := w2) (v' := v') (cs := cs) (t := t) hlt HO.out HA.out hv HB.out h1 hown hg)
      have HNO := Lib.hid (fun h => GiveM.small_no hlt (show smallQ (f i) = false from h))
      clear HE hp' hgl
      generalize f i = q at *
      unfold FRet at HG
      generalize numQ q = P at *
      generalize denQ q = Q at *
      go_wp2_with fail
      refine HG.out.mono ?_
      rintro e w1 ⟨rfl, hb1⟩
      have HB1 := Lib.hid hb1
      clear hb1 y0 y1 y2 y3 y4 y5 HG
      go_upto_region 6 with (fail)
      obtain ⟨W2, hW2⟩ : ∃ W2, W2 = w1.alloc (.cells #[.int .i64 P, .int .i64 Q] 43) := ⟨_, rfl⟩
      rw [← hW2]
      have K2 : Hid (Blk W2 w1.heap.size 43 #[.int .i64 P, .int .i64 Q]) := Lib.hid (by rw [hW2]; exact Blk.new w1 _ _)
      have HB2 : Hid (Below wr.heap.size wr W2) := Lib.hid (by rw [hW2]; exact HB1.out.alloc HB1.out.size _)
      have hsz := HB.out.size
      have hsz2 := HB2.out.size
      cases hs : smallQ q with
      | false =>
        have HN := Lib.hid (HNO.out hs)
        have HBB := Lib.hid (Base.Below.nextA HB.out HB2.out)
        clear hW2 hs HNO HF
        go_wp2
        go_ret2
        rw [HN.out.1, HN.out.2.1, HN.out.2.2]
        exact FsRet.no HBB.out
      | true =>
        have HNN := Lib.hid (fun w3 v' cs t hown hg => HF.out W2 w3 v' cs t hs HB2.out hown hg)
        have HW2 := Lib.hid (World.ownsRow.alloc (ownsRow_below HO.out HB2.out) (.cells #[.int .i64 P, .int .i64 Q] 43))
        have x0 := K2.out.at 0 (v := .int .i64 P) rfl
        have x1 := K2.out.at 1 (v := .int .i64 Q) rfl
        clear hW2 hs HNO HF HO HA HB HB1 HB2
        go_wp2_with (at_builtin; refine wpList_append_own_at _ rfl (.tmp 25) (.tmp 27) 28 rfl w.heap.size 43 i2 (.agg #[.int .i64 0, .int .i64 0]) 2 16 Tryz.underlying28 ki kz0 kz1 kz2 rfl (by decide) _ _ _ rfl HW2.out ⟨W2.heap.size, 0, none⟩ 1 1 [.int .i64 P, .int .i64 Q] rfl rfl ?p1a ?p2a ?p3a ?p4a ?p5a ?_)
        try case p1a => exact MemF.news_two _ _ (by simp)
        try case p2a => exact MemF.ones_two
        try case p3a => first | (simp only [maxLen]; omega) | omega
        try case p4a => omega
        try case p5a => first | (simp only [World.size_alloc]; omega) | omega
        intro v' w3 hown' hg' _ he
        have HN3 := Lib.hid (HNN.out w3 v' _ _ hown' hg')
        clear hown' hg' he HNN HW2
        go_wp2
        go_roundw
        case rel => exact HN3.out
        case measure => simp [intOf]; omega
    · obtain rfl : i = n := by omega
      obtain ⟨A', cp, rfl, _⟩ := HO.out.form
      have HY := Lib.hid (GiveM.small_yes' HA.out)
      clear HA
      go_wp2
      go_ret2
      rw [HY.out.1, HY.out.2.1, HY.out.2.2]
      exact ⟨A', cp, rfl, HO.out, HB.out⟩
end Go.Proofs.YtionognmgcabbaaGreat.Wide
/- The reference: the settled chances of a walk. -/
namespace Go.Proofs.YtionognmgcabbaaGreat.Wide
open Go.RowKit Go.Proofs.YtionognmgcabbaaGreat Go.Proofs.YtionognmgcabbaaGreat.Base Go.Proofs.YtionognmgcabbaaGreat.Mem Go.Proofs.YtionognmgcabbaaGreat.MemF Go.Proofs.YtionognmgcabbaaGreat.RatM Go.Proofs.YtionognmgcabbaaGreat.BigM Go.Proofs.YtionognmgcabbaaGreat.Big Go.Proofs.YtionognmgcabbaaGreat.Fine Go.Proofs.YtionognmgcabbaaGreat.Blk Go.Proofs.YtionognmgcabbaaGreat.GaussM Go.Proofs.YtionognmgcabbaaGreat.WalkM Go.Proofs.YtionognmgcabbaaGreat.ChM Go.Proofs.YtionognmgcabbaaGreat.GiveM
open Go.Proofs.YtionognmgcabbaaGreat.Ratio (below_next cast_ne solB solX sN wQ wk_all)
set_option linter.unusedVariables false
theorem RdFF.congrL {w : World} {B n : Nat} {A : Option Addr} {L L' : Nat → Nat} {fs : Nat → List Int} (h : RdFF w B A n L fs) (hL : ∀ i, i < n → L i = L' i) : RdFF w B A n L' fs := fun h0 => by
  obtain ⟨b, off, e, hlt, hc⟩ := h h0
  refine ⟨b, off, e, hlt, fun i hi => ?_⟩
  rw [← hL i hi]
  exact hc i hi
theorem mD6 : mD 6 ≤ 400000 := by decide
end Go.Proofs.YtionognmgcabbaaGreat.Wide
/- The reference: the hitting times of a walk. -/
namespace Go.Proofs.YtionognmgcabbaaGreat.Wide
open Go.RowKit Go.Proofs.YtionognmgcabbaaGreat Go.Proofs.YtionognmgcabbaaGreat.Base Go.Proofs.YtionognmgcabbaaGreat.Mem Go.Proofs.YtionognmgcabbaaGreat.MemF Go.Proofs.YtionognmgcabbaaGreat.RatM Go.Proofs.YtionognmgcabbaaGreat.BigM Go.Proofs.YtionognmgcabbaaGreat.Big Go.Proofs.YtionognmgcabbaaGreat.Fine Go.Proofs.YtionognmgcabbaaGreat.Blk Go.Proofs.YtionognmgcabbaaGreat.GaussM Go.Proofs.YtionognmgcabbaaGreat.WalkM Go.Proofs.YtionognmgcabbaaGreat.ChM Go.Proofs.YtionognmgcabbaaGreat.GiveM
open Go.Proofs.YtionognmgcabbaaGreat.Ratio (below_next cast_ne solB solX sN wQ wk_all wk_pos htB hqS htS htP htP_true htX htV htN htR htO ht_no ht_yes ht_end htS_dg rchB)
open Go.Proofs.YtionognmgcabbaaGreat.NatM (B32)
set_option linter.unusedVariables false
/-- a wide fraction in a box -/
structure Bw (wr : World) (g9 : Nat) (q : Rat) (m : Nat) (s : Bool) (A1 : Option Addr) (k1 c1 : Nat) (A2 : Option Addr) (k2 c2 : Nat) (fi : Bool) (fn fd : Int) (w : World) : Prop where
  bel : Below wr.heap.size wr w
  blk : Blk w g9 81 #[.bool s, .slice A1 k1 c1, .slice A2 k2 c2, .bool fi, .int .i64 fn, .int .i64 fd]
  val : IsW w q m (.agg #[.bool s, .slice A1 k1 c1, .slice A2 k2 c2, .bool fi, .int .i64 fn, .int .i64 fd])
  low : wr.heap.size ≤ g9
theorem Bw.make {wr w4 : World} {q : Rat} {m : Nat} {s : Bool} {A1 A2 : Option Addr} {k1 c1 k2 c2 : Nat} {fi : Bool} {fn fd : Int} {nn dd : Nat} (hb : Below wr.heap.size wr w4) (hp : Parts w4 q m s (.slice A1 k1 c1) (.slice A2 k2 c2) fi fn fd nn dd) :
    Bw wr w4.heap.size q m s A1 k1 c1 A2 k2 c2 fi fn fd (w4.alloc (.cells #[.bool s, .slice A1 k1 c1, .slice A2 k2 c2, .bool fi, .int .i64 fn, .int .i64 fd] 81)) := by
  have hb5 : Below w4.heap.size w4 (w4.alloc (.cells #[.bool s, .slice A1 k1 c1, .slice A2 k2 c2, .bool fi, .int .i64 fn, .int .i64 fd] 81)) := (Below.refl _ _).alloc (Nat.le_refl _) _
  exact ⟨Base.Below.nextA hb hb5, Blk.new w4 _ _, IsW.below ⟨_, _, _, _, _, _, _, _, _, _, _, _, rfl, hp⟩ hb5, hb.size⟩
theorem Bw.more {wr w : World} {g9 : Nat} {q : Rat} {m m' : Nat} {s : Bool} {A1 A2 : Option Addr} {k1 c1 k2 c2 : Nat} {fi : Bool} {fn fd : Int} (h : Bw wr g9 q m s A1 k1 c1 A2 k2 c2 fi fn fd w) (hm : m ≤ m') : Bw wr g9 q m' s A1 k1 c1 A2 k2 c2 fi fn fd w := ⟨h.bel, h.blk, h.val.more hm, h.low⟩
theorem Bw.put {wr w w' : World} {g9 : Nat} {q q' : Rat} {m m' m2 : Nat} {s : Bool} {A1 A2 : Option Addr} {k1 c1 k2 c2 : Nat} {fi : Bool} {fn fd : Int} {t : Bool} {C1 C2 : Option Addr} {m1 l1 m2' l2 : Nat} {fi2 : Bool} {fn2 fd2 : Int} {nn dd : Nat} (h : Bw wr g9 q m s A1 k1 c1 A2 k2 c2 fi fn fd w) (hb : Below w.heap.size w w') (hp : Parts w' q' m' t (.slice C1 m1 l1) (.slice C2 m2' l2) fi2 fn2 fd2 nn dd) (hm : m' ≤ m2) :
    Bw wr g9 q' m2 t C1 m1 l1 C2 m2' l2 fi2 fn2 fd2 (put6 w' g9 (.bool t) (.slice C1 m1 l1) (.slice C2 m2' l2) (.bool fi2) (.int .i64 fn2) (.int .i64 fd2)) := by
  have K9q := h.blk.belowS hb
  exact ⟨put6_below (Base.Below.nextA h.bel hb) h.low _ _ _ _ _ _, put6_blk K9q _ _ _ _ _ _, IsW.more ⟨_, _, _, _, _, _, _, _, _, _, _, _, rfl, hp.put6 K9q (by decide) _ _ _ _ _ _⟩ hm, h.low⟩
theorem vf_neg {n d : Int} (h : VF n d) : VF (-n) d ∧ qf (-n) d = -(qf n d) := by
  have hv : VF (-n) d := ⟨h.1, h.2.1, by have := h.2.2.2.1; omega, by have := h.2.2.1; omega, by rw [Int.natAbs_neg]; exact h.2.2.2.2⟩
  obtain ⟨g1, g2, _⟩ := h.num
  obtain ⟨k1, k2, _⟩ := hv.num
  refine ⟨hv, Rat.ext ?_ ?_⟩
  · rw [k1, Rat.neg_num, g1]
  · rw [Rat.neg_den]; omega
theorem fneg_any {n d : Int} (h1 : -1000000000000000000 ≤ n) (h2 : n ≤ 1000000000000000000) (w : World) : Calls Tryz.prog 87 #[.agg #[.int .i64 n, .int .i64 d]] w fun e w' => e = .returned (.agg #[.int .i64 (-n), .int .i64 d]) ∧ Below w.heap.size w w' := by
  have hwn : IntKind.i64.wrap (-n) = -n := by rw [IntKind.wrap_i64]; omega
  clear h1 h2
  obtain ⟨W2, hW2⟩ : ∃ W2, W2 = (w.alloc (.cells #[.int .i64 n, .int .i64 d] 43)).alloc (.cells #[.int .i64 0, .int .i64 0] 43) := ⟨_, rfl⟩
  have K0 : Hid (Blk W2 w.heap.size 43 #[.int .i64 n, .int .i64 d]) := Lib.hid (by rw [hW2]; exact (Blk.new w _ _).alloc _)
  have KR : Hid (Blk W2 (w.heap.size + 1) 43 #[.int .i64 0, .int .i64 0]) := Lib.hid (by rw [hW2]; exact Blk.newAt _ _ (by simp))
  have HB : Hid (Below w.heap.size w W2) := Lib.hid (by rw [hW2]; exact ((Below.refl _ _).alloc (Nat.le_refl _) _).alloc (by simp) _)
  have HW := Lib.hid hW2
  clear hW2
  have x0 := K0.out.at 0 (v := .int .i64 n) rfl
  have x1 := K0.out.at 1 (v := .int .i64 d) rfl
  have z0 := KR.out.frz 0
  have z1 := KR.out.frz 1
  have c0 := KR.out.at 0 (v := .int .i64 0) rfl
  have c1 := KR.out.at 1 (v := .int .i64 0) rfl
  have SS := (KR.out.setTo 0 (.int .i64 (-n)) rfl).setTo 1 (.int .i64 d) rfl
  have s0 := SS.at 0 rfl
  have s1 := SS.at 1 rfl
  clear SS
  go_enter Tryz.func87, Tryz.ntmps87
  go_upto_region 1 with (fail)
  rw [← HW.out]
  go_wp2
  refine bodyPost_ret (v := .agg #[.int .i64 (-n), .int .i64 d]) (by simp [results, Tryz.results87, go_sem, s0, s1]) rfl ⟨rfl, (HB.out.setCell (by simp) _).setCell (by simp) _⟩
def HsRel (n p : Nat) (W : Nat → Nat → Rat) (w : World) (kv lv : Value) (wr : World) : Prop :=
  ∃ (r : Nat) (us : List Value), kv = .int .i64 (r : Int) ∧ r ≤ n ∧ Hid (OwnWW wr w.heap.size lv r (n + 1) (htS n W p) 5 us) ∧ Hid (Below w.heap.size w wr)
set_option maxHeartbeats 4000000 in
set_option maxRecDepth 100000 in
theorem hitS_any {A : Option Addr} {c B n : Nat} {L : Nat → Nat} {fs : Nat → List Int} {t : Int} (w : World) (hx : RdFF w B A n L fs) (hB : B ≤ w.heap.size) (hL : ∀ i, i < n → L i ≤ 1048576) (hn : n ≤ 1048576) :
    Calls Tryz.prog 35 #[.agg #[.slice A n c], .int .i64 t] w (FsRet (htN n L fs t) (htR n L fs t) (htO n L fs t) w) := by
  obtain ⟨iw, wi, wz0, wz1, wz2⟩ := info_parts infoW
  obtain ⟨iv, vi, vz0, vz1, vz2⟩ := info_parts infoWW
  obtain ⟨W0, hW0⟩ : ∃ W0, W0 = w.alloc (.cells #[.slice A n c] 33) := ⟨_, rfl⟩
  have hb0 : Below w.heap.size w W0 := by rw [hW0]; exact (Below.refl _ _).alloc (Nat.le_refl _) _
  have k0 : Blk W0 w.heap.size 33 #[.slice A n c] := by rw [hW0]; exact Blk.new w _ _
  have K0 := Lib.hid k0
  have HX0 := Lib.hid ((hx.below hb0 hB).more (Nat.le_trans hB hb0.size))
  have HV := Lib.hid (walkS_any W0 (k0.at 0 (v := .slice A n c) rfl) k0.lt HX0.out (Nat.le_refl _) (fun i hi => by have := hL i hi; omega) (by omega))
  have HB0 := Lib.hid hb0
  have HW0 := Lib.hid hW0
  clear hx hb0 hW0 hL k0
  cases hv : wkB n L fs with
  | false =>
    have HEE := Lib.hid (ht_no (n := n) (L := L) (fs := fs) (t := t) (by unfold htV; rw [hv]; rfl))
    rw [hv] at HV
    clear hv
    go_enter Tryz.func35, Tryz.ntmps35
    go_wp2_with fail
    rw [← HW0.out]
    refine HV.out.mono ?_
    rintro e w1 ⟨rfl, hb1⟩
    have HBZ := Lib.hid (Base.Below.nextA HB0.out hb1)
    clear hb1
    go_wp2
    go_ret2
    rw [HEE.out.1, HEE.out.2.1, HEE.out.2.2]
    exact FsRet.no HBZ.out
  | true =>
    have hps := wk_pos hv
    rw [hv] at HV
    obtain ⟨hn1, hn6, hLn, hfs, hsum, hdg⟩ := wk_all hv
    have HFS := Lib.hid hfs
    have HDG := Lib.hid hdg
    have HVB := Lib.hid hv
    have HXn := Lib.hid (RdFF.congrL (L' := fun _ => n) HX0.out hLn)
    have HPS : Hid (∀ i k, i < n → k < n → 0 ≤ (fs i).getD (2 * k) 0) := Lib.hid (fun i k hi hk => of_decide_eq_true (all_range.1 (hps i hi) k hk))
    have hwr : IntKind.i64.wrap ((n : Int) - 1) = (n : Int) - 1 := by rw [IntKind.wrap_i64]; omega
    clear hv hLn hfs hsum hdg hps
    cases hp : htP n t with
    | false =>
      have HEE := Lib.hid (ht_no (n := n) (L := L) (fs := fs) (t := t) (by unfold htV; rw [HVB.out, hp]; rfl))
      have HIR := Lib.hid (fun W' => l00In_any t 0 ((n : Int) - 1) W')
      rw [show inR t 0 ((n : Int) - 1) = false from hp] at HIR
      clear hp
      go_enter Tryz.func35, Tryz.ntmps35
      go_wp2_with fail
      rw [← HW0.out]
      refine HV.out.mono ?_
      rintro e w1 ⟨rfl, hb1⟩
      have HBZ := Lib.hid (Base.Below.nextA HB0.out hb1)
      have x1 := (K0.out.belowS hb1).at 0 (v := .slice A n c) rfl
      clear hb1
      go_wp2_with fail
      refine (HIR.out _).mono ?_
      rintro e w2 ⟨rfl, rfl⟩
      go_wp2
      go_ret2
      rw [HEE.out.1, HEE.out.2.1, HEE.out.2.2]
      exact FsRet.no HBZ.out
    | true =>
      have HPB := Lib.hid hp
      have HIR := Lib.hid (fun W' => l00In_any t 0 ((n : Int) - 1) W')
      rw [show inR t 0 ((n : Int) - 1) = true from hp] at HIR
      obtain ⟨p, rfl, hpn⟩ := htP_true hp
      clear hp
      obtain ⟨W, hWd⟩ : ∃ W : Nat → Nat → Rat, W = wQ fs := ⟨_, rfl⟩
      have HWD := Lib.hid hWd
      have HD : Hid (∀ r c, r < n → c ≤ n → Dg (D30 ^ 5) (htS n W p r c)) := Lib.hid (fun r c hr hc => by rw [hWd]; exact (htS_dg HDG.out r c hr hc).more B32_D30)
      have HVF : Hid (∀ i k, i < n → k < n → VF ((fs i).getD (2 * k) 0) ((fs i).getD (2 * k + 1) 0) ∧ qf ((fs i).getD (2 * k) 0) ((fs i).getD (2 * k + 1) 0) = W i k) := Lib.hid (fun i k hi hk => ⟨HFS.out i hi k hk, by rw [hWd]; rfl⟩)
      have HRE := Lib.hid (fun W' (h : Below W0.heap.size W0 W') => RchS.reachS_any (c := c) W' ((K0.out.belowS h).at 0 (v := .slice A n c) rfl) (K0.out.belowS h).lt (HXn.out.below h (Nat.le_refl _)) h.size hn6 hpn HFS.out HPS.out)
      have HWN := Lib.hid (fun W' => wideOf_any vf_nought W')
      rw [qf_nought] at HWN
      have HWO := Lib.hid (fun W' => wideOf_any vf_one W')
      rw [qf_one] at HWO
      clear hWd
      go_enter Tryz.func35, Tryz.ntmps35
      go_wp2_with fail
      rw [← HW0.out]
      refine HV.out.mono ?_
      rintro e w1 ⟨rfl, hb1⟩
      have HW1 := Lib.hid hb1
      have x1 := (K0.out.belowS hb1).at 0 (v := .slice A n c) rfl
      clear hb1 HV
      go_wp2_with fail
      refine (HIR.out _).mono ?_
      rintro e w2 ⟨rfl, rfl⟩
      go_wp2_with fail
      refine (HRE.out _ HW1.out).mono ?_
      rintro e w4b ⟨rfl, hb4⟩
      have HW3 := Lib.hid (Base.Below.nextA HW1.out hb4)
      clear hb4 HRE HW1 HIR hwr x1
      cases hrb : rchB n (wQ fs) p with
      | false =>
        have HEE := Lib.hid (ht_no (n := n) (L := L) (fs := fs) (t := (p : Int)) (by unfold htV; rw [HVB.out, HPB.out, Int.toNat_natCast, hrb]; rfl))
        have HBZ := Lib.hid (Base.Below.nextA HB0.out HW3.out)
        clear hrb
        go_wp2
        go_ret2
        rw [HEE.out.1, HEE.out.2.1, HEE.out.2.2]
        exact FsRet.no HBZ.out
      | true =>
        have HRB := Lib.hid hrb
        have HX : Hid (RdFF w4b w4b.heap.size A n (fun _ => n) fs) := Lib.hid ((HXn.out.below HW3.out (Nat.le_refl _)).more HW3.out.size)
        have HC0 := Lib.hid (fun W' (hb : Below w4b.heap.size w4b W') => (K0.out.belowS (Base.Below.nextA HW3.out hb)).at 0 (v := .slice A n c) rfl)
        have HV := HVF
        have H0 : Hid (HsRel n p W w4b (.int .i64 0) (.slice (some ⟨w4b.heap.size, 0, none⟩) 0 0) (w4b.alloc (.cells #[] 93))) := Lib.hid ⟨0, [], rfl, Nat.zero_le _, Lib.hid (OwnWW.lit0 w4b _ _ _), Lib.hid ((Below.refl _ _).alloc (Nat.le_refl _) _)⟩
        clear hrb HVF HXn HFS HPS HDG
        go_wp2
        go_loopw [7, 6] (fun kv lv wr => HsRel n p W w4b kv lv wr) (fun kv _ _ => n - (intOf kv).toNat)
        case atStart => exact H0.out
        case round =>
          obtain ⟨r, us, rfl, hr, HO, HB⟩ := hrel
          clear H0
          obtain ⟨Al, cl, hlv, hAl⟩ := HO.out.form
          subst hlv
          by_cases hrn : r < n
          · obtain ⟨wo, rfl⟩ : ∃ wo : World, wo = wr := ⟨_, rfl⟩
            have H1 : Hid (SyRel n 5 (htS n W p r) wo (.int .i64 0) (.slice (some ⟨wo.heap.size, 0, none⟩) 0 0) (wo.alloc (.cells #[] 81))) := Lib.hid ⟨0, [], rfl, Nat.zero_le _, Lib.hid (OwnW.lit0 wo _ _), Lib.hid ((Below.refl _ _).alloc (Nat.le_refl _) _)⟩
            have hwo := HB.out.size
            have hrn2 : (r : Int) < (n : Int) := by omega
            have hbw : Hid (∀ W', Below wo.heap.size wo W' → Below w4b.heap.size w4b W') := Lib.hid (fun W' hb => below_next (Nat.le_refl _) HB.out hb)
            have p0 := HC0.out wo HB.out
            go_wp2
            clear p0
            go_loopw [9, 8] (fun iv ev w2 => SyRel n 5 (htS n W p r) wo iv ev w2) (fun iv _ _ => n - (intOf iv).toNat)
            case atStart => exact H1.out
            case round =>
              obtain ⟨j, cs, rfl, hj, HE, HBo⟩ := hrel
              clear H1
              have hso := HBo.out.size
              obtain ⟨Ae, ce, hev, hAe⟩ := HE.out.form
              subst hev
              by_cases hjn : j < n
              · have hjn2 : (j : Int) < (n : Int) := by omega
                have p0 := HC0.out wr (hbw.out wr HBo.out)
                go_wp2_with fail
                refine (zero_any _).mono ?_
                rintro e w3 ⟨rfl, hb3⟩
                have HB3 := Lib.hid hb3
                clear hb3 p0
                go_wp2_with fail
                refine (HWN.out _).mono ?_
                rintro e w4 ⟨v, rfl, hv7, hb4⟩
                obtain ⟨s, A1, k1, c1, A2, k2, c2, fi, fn, fd, nn, dd, rfl, hp4⟩ := hv7
                go_upto_region 12 with (fail)
                obtain ⟨W5, hW5⟩ : ∃ W5, W5 = w4.alloc (.cells #[.bool s, .slice A1 k1 c1, .slice A2 k2 c2, .bool fi, .int .i64 fn, .int .i64 fd] 81) := ⟨_, rfl⟩
                rw [← hW5]
                obtain ⟨g9, hg9⟩ : ∃ g9, g9 = w4.heap.size := ⟨_, rfl⟩
                rw [← hg9]
                have HB5 : Hid (Bw wr g9 0 2 s A1 k1 c1 A2 k2 c2 fi fn fd W5) := Lib.hid (by rw [hW5, hg9]; exact Bw.make (Base.Below.nextA HB3.out hb4) hp4)
                obtain ⟨q1, hq1⟩ : ∃ q1, q1 = hqS W p r j := ⟨_, rfl⟩
                obtain ⟨q2, hq2⟩ : ∃ q2, q2 = (if r = j then q1 + 1 else q1) := ⟨_, rfl⟩
                have HQE : Hid (q2 = htS n W p r j) := Lib.hid (by unfold htS; rw [hq2, hq1, if_pos hjn])
                have HQ2 := Lib.hid hq2
                clear hq2 hW5 hg9 hb4 hp4 HB3
                by_cases hrp : r = p
                case' pos =>
                  have hne : ((r : Int) != (p : Int)) = false := by simp [hrp]
                  have hfi : Hid (q1 = 0) := Lib.hid (by rw [hq1]; unfold hqS; rw [if_neg (fun h => h.1 hrp)])
                  clear hrp hq1
                  go_upto_region 14 with (fail)
                  obtain ⟨W6, hW6⟩ : ∃ zz, zz = W5 := ⟨_, rfl⟩
                  rw [← hW6] at HB5 ⊢
                  obtain ⟨t, rfl⟩ : ∃ zz, zz = s := ⟨_, rfl⟩
                  obtain ⟨C1, rfl⟩ : ∃ zz, zz = A1 := ⟨_, rfl⟩
                  obtain ⟨m1, rfl⟩ : ∃ zz, zz = k1 := ⟨_, rfl⟩
                  obtain ⟨l1, rfl⟩ : ∃ zz, zz = c1 := ⟨_, rfl⟩
                  obtain ⟨C2, rfl⟩ : ∃ zz, zz = A2 := ⟨_, rfl⟩
                  obtain ⟨m2, rfl⟩ : ∃ zz, zz = k2 := ⟨_, rfl⟩
                  obtain ⟨l2, rfl⟩ : ∃ zz, zz = c2 := ⟨_, rfl⟩
                  obtain ⟨fi2, rfl⟩ : ∃ zz, zz = fi := ⟨_, rfl⟩
                  obtain ⟨fn2, rfl⟩ : ∃ zz, zz = fn := ⟨_, rfl⟩
                  obtain ⟨fd2, rfl⟩ : ∃ zz, zz = fd := ⟨_, rfl⟩
                  have HB6 : Hid (Bw wr g9 q1 2 t C1 m1 l1 C2 m2 l2 fi2 fn2 fd2 W6) := Lib.hid (by rw [hfi.out]; exact HB5.out.more (by decide))
                  clear hW6 HB5
                  clear hfi
                case' neg =>
                  have hne : ((r : Int) != (p : Int)) = true := by simp; omega
                  by_cases hjp : j = p
                  case' pos =>
                    have hne2 : ((j : Int) != (p : Int)) = false := by simp [hjp]
                    have hfi : Hid (q1 = 0) := Lib.hid (by rw [hq1]; unfold hqS; rw [if_neg (fun h => h.2 hjp)])
                    clear hrp hjp hq1
                    go_upto_region 14 with (fail)
                    obtain ⟨W6, hW6⟩ : ∃ zz, zz = W5 := ⟨_, rfl⟩
                    rw [← hW6] at HB5 ⊢
                    obtain ⟨t, rfl⟩ : ∃ zz, zz = s := ⟨_, rfl⟩
                    obtain ⟨C1, rfl⟩ : ∃ zz, zz = A1 := ⟨_, rfl⟩
                    obtain ⟨m1, rfl⟩ : ∃ zz, zz = k1 := ⟨_, rfl⟩
                    obtain ⟨l1, rfl⟩ : ∃ zz, zz = c1 := ⟨_, rfl⟩
                    obtain ⟨C2, rfl⟩ : ∃ zz, zz = A2 := ⟨_, rfl⟩
                    obtain ⟨m2, rfl⟩ : ∃ zz, zz = k2 := ⟨_, rfl⟩
                    obtain ⟨l2, rfl⟩ : ∃ zz, zz = c2 := ⟨_, rfl⟩
                    obtain ⟨fi2, rfl⟩ : ∃ zz, zz = fi := ⟨_, rfl⟩
                    obtain ⟨fn2, rfl⟩ : ∃ zz, zz = fn := ⟨_, rfl⟩
                    obtain ⟨fd2, rfl⟩ : ∃ zz, zz = fd := ⟨_, rfl⟩
                    have HB6 : Hid (Bw wr g9 q1 2 t C1 m1 l1 C2 m2 l2 fi2 fn2 fd2 W6) := Lib.hid (by rw [hfi.out]; exact HB5.out.more (by decide))
                    clear hW6 HB5
                    clear hfi
                  case' neg =>
                    have hne2 : ((j : Int) != (p : Int)) = true := by simp; omega
                    have hfi : Hid (q1 = -(W r j)) := Lib.hid (by rw [hq1]; unfold hqS; rw [if_pos ⟨hrp, hjp⟩])
                    clear hrp hjp hq1
                    have hb5w := hbw.out W5 (below_next (Nat.le_refl _) HBo.out HB5.out.bel)
                    obtain ⟨bf, of, A6, c6, rfl, hbf, y, hrow⟩ := (HX.out.below hb5w (Nat.le_refl _)).at hrn
                    obtain ⟨br, or, rfl, hbr, x0, x1⟩ := hrow.at hjn
                    have p0 := HC0.out W5 hb5w
                    obtain ⟨hvf, hqf⟩ := HV.out r j hrn hjn
                    have HVN := Lib.hid (vf_neg hvf)
                    rw [hqf] at HVN
                    have HFN := Lib.hid (fun W' => fneg_any (d := (fs r).getD (2 * j + 1) 0) hvf.2.2.1 hvf.2.2.2.1 W')
                    have HWW := Lib.hid (fun W' => wideOf_any (vf_neg hvf).1 W')
                    rw [(vf_neg hvf).2, hqf, ← hfi.out] at HWW
                    clear hrow hvf hqf hb5w HVN
                    generalize (fs r).getD (2 * j) 0 = z0 at *
                    generalize (fs r).getD (2 * j + 1) 0 = z1 at *
                    go_wp2_with fail
                    refine (HFN.out _).mono ?_
                    rintro e w6 ⟨rfl, hb6⟩
                    have HB6n := Lib.hid hb6
                    clear hb6 y x0 x1 p0 hbf hbr
                    go_wp2_with fail
                    refine (HWW.out _).mono ?_
                    rintro e w7 ⟨v, rfl, hv7, hb7⟩
                    have hb67 := Base.Below.nextA HB6n.out hb7
                    obtain ⟨t, C1, m1, l1, C2, m2, l2, fi2, fn2, fd2, nn2, dd2, rfl, hp2⟩ := hv7
                    clear hb7 HB6n HFN HWW
                    have K9q := HB5.out.blk.belowS hb67
                    obtain ⟨W6, hW6⟩ : ∃ zz, zz = put6 w7 g9 (.bool t) (.slice C1 m1 l1) (.slice C2 m2 l2) (.bool fi2) (.int .i64 fn2) (.int .i64 fd2) := ⟨_, rfl⟩
                    have HB6 : Hid (Bw wr g9 q1 2 t C1 m1 l1 C2 m2 l2 fi2 fn2 fd2 W6) := Lib.hid (by rw [hW6]; exact HB5.out.put hb67 hp2 (by decide))
                    have d0 := K9q.at 0 (v := .bool s) rfl
                    have d1 := K9q.at 1 (v := .slice A1 k1 c1) rfl
                    have d2 := K9q.at 2 (v := .slice A2 k2 c2) rfl
                    have d3 := K9q.at 3 (v := .bool fi) rfl
                    have d4 := K9q.at 4 (v := .int .i64 fn) rfl
                    have d5 := K9q.at 5 (v := .int .i64 fd) rfl
                    have z0 := K9q.frz 0
                    have z1 := K9q.frz 1
                    have z2 := K9q.frz 2
                    have z3 := K9q.frz 3
                    have z4 := K9q.frz 4
                    have z5 := K9q.frz 5
                    unfold put6 at hW6
                    have HHW6 := Lib.hid hW6
                    clear hW6 K9q hb67 hp2 HB5 hfi
                    go_upto_region 14 with (fail)
                    rw [← HHW6.out]
                    clear HHW6 z0 z1 z2 z3 z4 z5 d0 d1 d2 d3 d4 d5
                all_goals
                  by_cases hrj : r = j
                  case' pos =>
                    have heq2 : ((r : Int) == (j : Int)) = true := by simp [hrj]
                    have hfl : Hid (q2 = q1 + 1) := Lib.hid (by rw [HQ2.out, if_pos hrj])
                    have HI6 := Lib.hid HB6.out.val
                    clear hrj HQ2
                    go_upto_region 15 with (fail)
                    refine Rel.wp_region_rel 4 (by kernel_rfl) (by kernel_rfl) (fun F hF => ?_)
                    simp only [List.take_succ_cons, List.take_zero, List.drop_succ_cons, List.drop_zero, Rel.putL] at hF ⊢
                    have HF := Lib.hid hF
                    clear hF
                    have uv := @Rel.upon_value Tryz.prog
                    have ue := @Rel.upon_enter Tryz.prog
                    apply Rel.rel_pure
                    apply Exists.intro
                    refine ⟨fun vs wq hq hdp R hR => ?_, ?_⟩
                    · (rw [HF.out, Rel.stepAt_eq]; clear hdp; have y0 := (HB6.out.blk.belowS hq).at 0 (v := .bool t) rfl; have y1 := (HB6.out.blk.belowS hq).at 1 (v := .slice C1 m1 l1) rfl; have y2 := (HB6.out.blk.belowS hq).at 2 (v := .slice C2 m2 l2) rfl; have y3 := (HB6.out.blk.belowS hq).at 3 (v := .bool fi2) rfl; have y4 := (HB6.out.blk.belowS hq).at 4 (v := .int .i64 fn2) rfl; have y5 := (HB6.out.blk.belowS hq).at 5 (v := .int .i64 fd2) rfl; go_simp; exact hR)
                    apply Rel.rel_pure
                    apply Exists.intro
                    refine ⟨fun vs wq hq hdp R hR => ?_, ?_⟩
                    · (rw [HF.out, Rel.stepAt_eq]; clear hdp; skip; go_simp; exact hR)
                    refine Rel.rel_law (S := fun v w' => IsW w' 1 2 v) (isW_mono _ _) (fun vs wq hq hdp => ?_) ?_
                    · (rw [HF.out, Rel.stepAt_eq]; have qd1 : vs 1 = _ := Rel.dep hdp 1 (by kernel_rfl); clear hdp; skip; go_simp; refine (HWO.out _).mono ?_; rintro e w7 ⟨v, rfl, hv, hb⟩; exact ⟨_, rfl, hv, hb⟩)
                    refine Rel.rel_law (S := fun v w' => IsW w' (q1 + 1) 5 v) (isW_mono _ _) (fun vs wq hq hdp => ?_) ?_
                    · (rw [HF.out, Rel.stepAt_eq]; have qd0 : vs 0 = _ := Rel.dep hdp 0 (by kernel_rfl); have qd2 : IsW wq _ _ (vs 2) := Rel.dep hdp 2 (by kernel_rfl); clear hdp; skip; go_simp; refine (wideAdd_any wq (HI6.out.below hq) qd2 (by decide) (by decide) (by decide) (by decide)).mono ?_; rintro e w7 ⟨v, rfl, hv, hb⟩; exact ⟨_, rfl, hv, hb⟩)
                    refine Rel.rel_end (fun vs wq hq hall => ?_)
                    rw [HF.out]
                    have qe0 : vs 0 = _ := Rel.fin hall 0 (by decide)
                    have qe1 : vs 1 = _ := Rel.fin hall 1 (by decide)
                    have qe2 : IsW wq _ _ (vs 2) := Rel.fin hall 2 (by decide)
                    have qe3 : IsW wq _ _ (vs 3) := Rel.fin hall 3 (by decide)
                    clear hall HF uv ue
                    obtain ⟨t3, D1, i1, b1, D2, i2, b2, fi3, fn3, fd3, nn3, dd3, ev3, hp3⟩ := qe3
                    have K9q := HB6.out.blk.belowS hq
                    obtain ⟨W7, hW7⟩ : ∃ zz, zz = put6 wq g9 (.bool t3) (.slice D1 i1 b1) (.slice D2 i2 b2) (.bool fi3) (.int .i64 fn3) (.int .i64 fd3) := ⟨_, rfl⟩
                    have HB7 : Hid (Bw wr g9 q2 5 t3 D1 i1 b1 D2 i2 b2 fi3 fn3 fd3 W7) := Lib.hid (by rw [hfl.out, hW7]; exact HB6.out.put hq hp3 (by decide))
                    have d0 := K9q.at 0 (v := .bool t) rfl
                    have d1 := K9q.at 1 (v := .slice C1 m1 l1) rfl
                    have d2 := K9q.at 2 (v := .slice C2 m2 l2) rfl
                    have d3 := K9q.at 3 (v := .bool fi2) rfl
                    have d4 := K9q.at 4 (v := .int .i64 fn2) rfl
                    have d5 := K9q.at 5 (v := .int .i64 fd2) rfl
                    have z0 := K9q.frz 0
                    have z1 := K9q.frz 1
                    have z2 := K9q.frz 2
                    have z3 := K9q.frz 3
                    have z4 := K9q.frz 4
                    have z5 := K9q.frz 5
                    unfold put6 at hW7
                    have HHW7 := Lib.hid hW7
                    clear hW7 K9q hq hp3 HB6 HI6 hfl qe0 qe1 qe2
                    go_upto_region 16 with (fail)
                    rw [← HHW7.out]
                    clear HHW7 z0 z1 z2 z3 z4 z5 d0 d1 d2 d3 d4 d5
                  case' neg =>
                    have heq2 := cast_ne hrj
                    have hfl : Hid (q2 = q1) := Lib.hid (by rw [HQ2.out, if_neg hrj])
                    clear hrj HQ2
                    go_upto_region 16 with (fail)
                    obtain ⟨W7, hW7⟩ : ∃ zz, zz = W6 := ⟨_, rfl⟩
                    rw [← hW7] at HB6 ⊢
                    obtain ⟨t3, rfl⟩ : ∃ zz, zz = t := ⟨_, rfl⟩
                    obtain ⟨D1, rfl⟩ : ∃ zz, zz = C1 := ⟨_, rfl⟩
                    obtain ⟨i1, rfl⟩ : ∃ zz, zz = m1 := ⟨_, rfl⟩
                    obtain ⟨b1, rfl⟩ : ∃ zz, zz = l1 := ⟨_, rfl⟩
                    obtain ⟨D2, rfl⟩ : ∃ zz, zz = C2 := ⟨_, rfl⟩
                    obtain ⟨i2, rfl⟩ : ∃ zz, zz = m2 := ⟨_, rfl⟩
                    obtain ⟨b2, rfl⟩ : ∃ zz, zz = l2 := ⟨_, rfl⟩
                    obtain ⟨fi3, rfl⟩ : ∃ zz, zz = fi2 := ⟨_, rfl⟩
                    obtain ⟨fn3, rfl⟩ : ∃ zz, zz = fn2 := ⟨_, rfl⟩
                    obtain ⟨fd3, rfl⟩ : ∃ zz, zz = fd2 := ⟨_, rfl⟩
                    have HB7 : Hid (Bw wr g9 q2 5 t3 D1 i1 b1 D2 i2 b2 fi3 fn3 fd3 W7) := Lib.hid (by rw [hfl.out]; exact HB6.out.more (by decide))
                    clear hW7 HB6
                    clear hfl
                all_goals
                  have y0 := HB7.out.blk.at 0 (v := .bool t3) rfl
                  have y1 := HB7.out.blk.at 1 (v := .slice D1 i1 b1) rfl
                  have y2 := HB7.out.blk.at 2 (v := .slice D2 i2 b2) rfl
                  have y3 := HB7.out.blk.at 3 (v := .bool fi3) rfl
                  have y4 := HB7.out.blk.at 4 (v := .int .i64 fn3) rfl
                  have y5 := HB7.out.blk.at 5 (v := .int .i64 fd3) rfl
                  rw [HQE.out] at HB7
                  obtain ⟨nn8, dd8, hp8⟩ := HB7.out.val.parts
                  have HNX := Lib.hid (fun (w2 : World) v' ca tt hown hg => OwnW.push (w2 := w2) (v' := v') (ca := ca) (t := tt) (f := htS n W p r) HE.out HB7.out.bel hp8 hown hg)
                  unfold six at HNX
                  have HOA := Lib.hid (World.ownsRow.alloc (ownsRow_below HE.out.row HB7.out.bel) (.cells #[.bool t3, .slice D1 i1 b1, .slice D2 i2 b2, .bool fi3, .int .i64 fn3, .int .i64 fd3] 81))
                  have HBN := Lib.hid (fun (w2 : World) (hg : (W7.alloc (.cells #[.bool t3, .slice D1 i1 b1, .slice D2 i2 b2, .bool fi3, .int .i64 fn3, .int .i64 fd3] 81)).grownBy w2 (Value.slice Ae j ce).ownBlock) => (below_next (Nat.le_refl _) HBo.out (HB7.out.bel.alloc HB7.out.bel.size _)).trans (grown_below hg (fun g e => (ownsRow_block HE.out.row e).choose_spec.2.1) (Nat.le_trans HBo.out.size (HB7.out.bel.alloc HB7.out.bel.size _).size)))
                  have hs8 := HB7.out.bel.size
                  clear hp8 HE HBo HB7 HQE
                  go_wp2_with (at_builtin; refine wpList_append_own_at _ rfl (.tmp 73) (.tmp 75) 93 rfl wo.heap.size 81 iw (.agg #[.bool false, .slice none 0 0, .slice none 0 0, .bool false, .int .i64 0, .int .i64 0]) 6 80 Tryz.underlying93 wi wz0 wz1 wz2 rfl (by decide) _ _ _ rfl HOA.out ⟨W7.heap.size, 0, none⟩ 1 1 [.bool t3, .slice D1 i1 b1, .slice D2 i2 b2, .bool fi3, .int .i64 fn3, .int .i64 fd3] rfl rfl ?p1a ?p2a ?p3a ?p4a ?p5a ?_)
                  try case p1a => exact news_six _ _ (by simp)
                  try case p2a => exact ones_six
                  try case p3a => first | (simp only [maxLen]; omega) | omega
                  try case p4a => omega
                  try case p5a => first | (simp only [World.size_alloc]; omega) | omega
                  intro v' w9 hown' hg' _ he
                  have HN9 : Hid (SyRel n 5 (htS n W p r) wo (.int .i64 ((j : Int) + 1)) v' w9) := Lib.hid ⟨j + 1, _, by simp, hjn, Lib.hid (HNX.out w9 v' _ _ hown' hg'), Lib.hid (HBN.out w9 hg')⟩
                  clear hown' hg' he HNX HOA HBN y0 y1 y2 y3 y4 y5
                  go_wp2
                  go_roundw
                  case rel => exact HN9.out
                  case measure => simp [intOf]; omega
              · obtain rfl : n = j := by omega
                have p0 := HC0.out wr (hbw.out wr HBo.out)
                go_upto_region 18 with (fail)
                obtain ⟨W5, hW5⟩ : ∃ W5, W5 = wr.alloc (.cells #[.int .i64 1, .int .i64 1] 43) := ⟨_, rfl⟩
                rw [← hW5]
                obtain ⟨g9, hg9⟩ : ∃ g9, g9 = wr.heap.size := ⟨_, rfl⟩
                rw [← hg9]
                have hb5 : Below wr.heap.size wr W5 := by rw [hW5]; exact (Below.refl _ _).alloc (Nat.le_refl _) _
                have K5 : Hid (Blk W5 g9 43 #[.int .i64 1, .int .i64 1]) := Lib.hid (by rw [hW5, hg9]; exact Blk.new wr _ _)
                have hgw : wr.heap.size ≤ g9 := by omega
                have HB5 := Lib.hid hb5
                obtain ⟨za, hza⟩ : ∃ za : Int, za = (if r = p then 0 else 1) := ⟨_, rfl⟩
                have HVZ : Hid (VF za 1 ∧ qf za 1 = htS n W p r n) := Lib.hid (by
                  rw [hza, (ht_end n W p r).2]
                  unfold htB
                  split
                  · exact ⟨vf_nought, qf_nought⟩
                  · exact ⟨vf_one, qf_one⟩)
                clear hW5 hg9 hb5 p0
                by_cases hrp : r = p
                case' pos =>
                  have heq : ((r : Int) == (p : Int)) = true := by simp [hrp]
                  have hfi : Hid (za = 0) := Lib.hid (by rw [hza, if_pos hrp])
                  clear hrp hza
                  go_wp2_with fail
                  refine (zero_any _).mono ?_
                  rintro e w6 ⟨rfl, hb6⟩
                  have K5q := K5.out.belowS hb6
                  obtain ⟨W6, hW6⟩ : ∃ W6, W6 = (w6.setCell ⟨g9, 0, none⟩ (.int .i64 0)).setCell ⟨g9, 1, none⟩ (.int .i64 1) := ⟨_, rfl⟩
                  have K6 : Hid (Blk W6 g9 43 #[.int .i64 za, .int .i64 1]) := Lib.hid (by rw [hW6, hfi.out]; exact (K5q.setTo 0 _ rfl).setTo 1 _ rfl)
                  have HB6 : Hid (Below wr.heap.size wr W6) := Lib.hid (by rw [hW6]; exact ((Base.Below.nextA HB5.out hb6).setCell (p := ⟨g9, 0, none⟩) hgw _).setCell (p := ⟨g9, 1, none⟩) hgw _)
                  have d0 := K5q.at 0 (v := .int .i64 1) rfl
                  have d1 := K5q.at 1 (v := .int .i64 1) rfl
                  have z0 := K5q.frz 0
                  have z1 := K5q.frz 1
                  have HHW6 := Lib.hid hW6
                  clear hW6 K5q hb6 K5 HB5 hfi
                  go_upto_region 20 with (fail)
                  rw [← HHW6.out]
                  clear HHW6 d0 d1 z0 z1
                case' neg =>
                  have heq := cast_ne hrp
                  have hfi : Hid (za = 1) := Lib.hid (by rw [hza, if_neg hrp])
                  clear hrp hza
                  go_upto_region 20 with (fail)
                  obtain ⟨W6, hW6⟩ : ∃ zz, zz = W5 := ⟨_, rfl⟩
                  rw [← hW6] at K5 HB5 ⊢
                  have K6 : Hid (Blk W6 g9 43 #[.int .i64 za, .int .i64 1]) := Lib.hid (by rw [hfi.out]; exact K5.out)
                  have HB6 := HB5
                  clear hW6 K5 HB5 hfi
                all_goals
                  have y0 := K6.out.at 0 (v := .int .i64 za) rfl
                  have y1 := K6.out.at 1 (v := .int .i64 1) rfl
                  have HWV := Lib.hid (fun W' => wideOf_any HVZ.out.1 W')
                  rw [HVZ.out.2] at HWV
                  clear K6 HVZ
                  go_wp2_with fail
                  refine (HWV.out _).mono ?_
                  rintro e w7 ⟨v, rfl, hv7, hb7⟩
                  obtain ⟨t3, D1, i1, b1, D2, i2, b2, fi3, fn3, fd3, nn8, dd8, rfl, hp7⟩ := hv7
                  have hb67 := Base.Below.nextA HB6.out hb7
                  have hp8 := hp7.more (show 2 ≤ 5 by decide)
                  have HNX := Lib.hid (fun (w2 : World) v' ca tt hown hg => OwnW.push (w2 := w2) (v' := v') (ca := ca) (t := tt) (f := htS n W p r) HE.out hb67 hp8 hown hg)
                  unfold six at HNX
                  have HOA := Lib.hid (World.ownsRow.alloc (ownsRow_below HE.out.row hb67) (.cells #[.bool t3, .slice D1 i1 b1, .slice D2 i2 b2, .bool fi3, .int .i64 fn3, .int .i64 fd3] 81))
                  have HBN := Lib.hid (fun (w2 : World) (hg : (w7.alloc (.cells #[.bool t3, .slice D1 i1 b1, .slice D2 i2 b2, .bool fi3, .int .i64 fn3, .int .i64 fd3] 81)).grownBy w2 (Value.slice Ae n ce).ownBlock) => (below_next (Nat.le_refl _) HBo.out (hb67.alloc hb67.size _)).trans (grown_below hg (fun g e => (ownsRow_block HE.out.row e).choose_spec.2.1) (Nat.le_trans HBo.out.size (hb67.alloc hb67.size _).size)))
                  have hs8 := hb67.size
                  clear hp7 hp8 hb7 hb67 HE HBo HB6 HWV y0 y1
                  go_wp2_with (at_builtin; refine wpList_append_own_at _ rfl (.tmp 83) (.tmp 86) 93 rfl wo.heap.size 81 iw (.agg #[.bool false, .slice none 0 0, .slice none 0 0, .bool false, .int .i64 0, .int .i64 0]) 6 80 Tryz.underlying93 wi wz0 wz1 wz2 rfl (by decide) _ _ _ rfl HOA.out ⟨w7.heap.size, 0, none⟩ 1 1 [.bool t3, .slice D1 i1 b1, .slice D2 i2 b2, .bool fi3, .int .i64 fn3, .int .i64 fd3] rfl rfl ?p1b ?p2b ?p3b ?p4b ?p5b ?_)
                  try case p1b => exact news_six _ _ (by simp)
                  try case p2b => exact ones_six
                  try case p3b => first | (simp only [maxLen]; omega) | omega
                  try case p4b => omega
                  try case p5b => first | (simp only [World.size_alloc]; omega) | omega
                  intro v' w9 hown' hg' _ he
                  have hF9 := HNX.out w9 v' _ _ hown' hg'
                  have hb9 := HBN.out w9 hg'
                  obtain ⟨Ar, cr, rfl, hAr⟩ := hF9.form
                  obtain ⟨gr, rfl, hgr, _⟩ := hAr (Nat.succ_pos n)
                  obtain ⟨cur, hcur⟩ := hF9.toV
                  have HP := Lib.hid (fun (w2 : World) v'' ca tt hown hg => OwnWW.push (w2 := w2) (v' := v'') (c := cr) (ca := ca) (t := tt) HO.out hb9 hcur hgr HB.out.size hown hg)
                  have HOB := Lib.hid (World.ownsRow.alloc (ownsRow_below HO.out.row hb9) (.cells #[.slice (some ⟨gr, 0, none⟩) (n + 1) cr] 93))
                  have HBB := Lib.hid (fun (w2 : World) (hg : (w9.alloc (.cells #[.slice (some ⟨gr, 0, none⟩) (n + 1) cr] 93)).grownBy w2 (Value.slice Al r cl).ownBlock) => (below_next (Nat.le_refl _) HB.out (hb9.alloc hb9.size _)).trans (grown_below hg (fun g e => (ownsRow_block HO.out.row e).choose_spec.2.1) (Nat.le_trans HB.out.size (hb9.alloc hb9.size _).size)))
                  have hs9 := hb9.size
                  clear hown' hg' he HNX HOA HBN hF9 hb9 hAr hgr hcur HB HO
                  go_wp2_with (at_builtin; refine wpList_append_own_at _ rfl (.tmp 82) (.tmp 88) 117 rfl w4b.heap.size 93 iv (.slice none 0 0) 1 24 Tryz.underlying117 vi vz0 vz1 vz2 rfl (by decide) _ _ _ rfl HOB.out ⟨w9.heap.size, 0, none⟩ 1 1 [.slice (some ⟨gr, 0, none⟩) (n + 1) cr] rfl rfl ?p1c ?p2c ?p3c ?p4c ?p5c ?_)
                  try case p1c => exact news_one _ _ _ (by simp)
                  try case p2c => first | exact one_slice | (intro u hu; simp at hu; subst hu; rfl)
                  try case p3c => first | (simp only [maxLen]; omega) | omega
                  try case p4c => omega
                  try case p5c => first | (simp only [World.size_alloc]; omega) | omega
                  intro v'' wA hown' hg' _ _
                  have HNA : Hid (HsRel n p W w4b (.int .i64 ((r : Int) + 1)) v'' wA) := Lib.hid ⟨r + 1, _, by simp, hrn, Lib.hid (HP.out wA v'' _ _ hown' hg'), Lib.hid (HBB.out wA hg')⟩
                  clear hown' hg' HP HOB HBB
                  go_wp2
                  go_roundw
                  case rel => exact HNA.out
                  case measure => simp [intOf]; omega
          · obtain rfl : n = r := by omega
            obtain ⟨gL, rfl, _, _⟩ := hAl (by omega)
            obtain ⟨gs, cp, cm, css, hmat⟩ := HO.out.mat
            have HSV := Lib.hid (solveS_any (c0 := cl) wr hmat hn1 hn6 HD.out)
            have HW4 := Lib.hid (Base.Below.nextA HW3.out HB.out)
            have p0 := HC0.out wr HB.out
            clear hmat HO HB HD hAl HX HWN HV HWO
            go_wp2_with fail
            refine HSV.out.mono ?_
            rintro e w7 ⟨v, cs, rfl, ho, hb7⟩
            have HW7 := Lib.hid (Base.Below.nextA HW4.out hb7)
            have hs4 := HW4.out.size
            clear p0
            cases hsb : solB (htS n W p) n n with
            | false =>
              have HEE := Lib.hid (ht_no (n := n) (L := L) (fs := fs) (t := (p : Int)) (by unfold htV; rw [HVB.out, HPB.out, Int.toNat_natCast, HRB.out, ← HWD.out, hsb]; rfl))
              have HBZ := Lib.hid (Base.Below.nextA HB0.out HW7.out)
              clear hsb ho hb7 HW4 HW7 HSV
              go_wp2
              go_ret2
              rw [HEE.out.1, HEE.out.2.1, HEE.out.2.2]
              exact FsRet.no HBZ.out
            | true =>
              have HEE := Lib.hid (ht_yes (n := n) (L := L) (fs := fs) (t := (p : Int)) (by unfold htV; rw [HVB.out, HPB.out, Int.toNat_natCast, HRB.out, ← HWD.out, hsb]; rfl))
              have hsn : sN (htS n W p) n n = n := by
                unfold sN
                rw [hsb, if_pos rfl]
              rw [hsn] at ho
              obtain ⟨A4, c4, rfl, _⟩ := ho.form
              have HF := Lib.hid (giveS_any w7 (ho.base (Nat.zero_le _)) mD6 (show n ≤ 1000 by omega))
              rw [show solX (htS n W p) n n = htX n fs (p : Int) by rw [HWD.out]; rfl, ← HEE.out.1, ← HEE.out.2.1, ← HEE.out.2.2] at HF
              clear hsb ho hb7 HSV hsn
              go_wp2_with fail
              refine HF.out.mono ?_
              rintro e w8 ⟨A6, c6, rfl, ho6, hb6⟩
              have HO := Lib.hid (And.intro ho6 (Base.Below.nextA HB0.out (Base.Below.nextA HW7.out hb6)))
              have hs7 : w.heap.size ≤ w7.heap.size := Nat.le_trans HB0.out.size HW7.out.size
              clear ho6 hb6
              go_wp2
              go_ret2
              exact ⟨A6, c6, rfl, ownsRow_base HO.out.1 hs7, HO.out.2⟩
end Go.Proofs.YtionognmgcabbaaGreat.Wide
/- The laws' sizes and copies of lists of fractions. -/
namespace Go.Proofs.YtionognmgcabbaaGreat.CpyF
open Go.RowKit Go.Proofs.YtionognmgcabbaaGreat Go.Proofs.YtionognmgcabbaaGreat.Base Go.Proofs.YtionognmgcabbaaGreat.Mem Go.Proofs.YtionognmgcabbaaGreat.Cpy Go.Proofs.YtionognmgcabbaaGreat.MemF Go.Proofs.YtionognmgcabbaaGreat.WalkM
set_option linter.unusedVariables false
theorem szF_any (A : Option Addr) (n c : Nat) (k : Int) (w : World) (hn : n ≤ 9223372036854775807) (hk : 0 ≤ k) (hk2 : k ≤ 1048576) :
    Calls Tryz.prog 12 #[.slice A n c, .int .i64 k] w fun e w' => ∃ r : Int, e = .returned (.int .i64 r) ∧ (r = -1 ∨ (0 ≤ r ∧ r = k - n)) ∧ w = w' := by
  by_cases h0 : k - (n : Int) < 0
  · go_enter Tryz.func12, Tryz.ntmps12
    go_wp2
    go_ret
    exact ⟨-1, rfl, .inl rfl, rfl⟩
  · go_enter Tryz.func12, Tryz.ntmps12
    go_wp2
    go_ret
    exact ⟨k - n, rfl, .inr ⟨by omega, rfl⟩, rfl⟩
/-! ### Fractions that are copied -/
theorem toFr_any (a b : Int) (w : World) : Calls Tryz.prog 38 #[.agg #[.int .i64 a, .int .i64 b]] w fun e w' => e = .returned (.agg #[.int .i64 a, .int .i64 b]) ∧ Below w.heap.size w w' := by
  go_enter Tryz.func38, Tryz.ntmps38
  go_wp2
  exact bodyPost_ret (v := .agg #[.int .i64 a, .int .i64 b]) (by simp [results, Tryz.results38, go_sem]) rfl ⟨rfl, (((Below.refl _ _).alloc (Nat.le_refl _) _).alloc (by simp) _).alloc (by simp; omega) _⟩
theorem set2_half {fs : List Int} {n j : Nat} (hl : fs.length = 2 * n) (hj : j < n) (t : Nat) (ht : t < 2) :
    (ints (fs.take (2 * j + t) ++ List.replicate (2 * n - (2 * j + t)) 0)).set (2 * j + t) (.int .i64 (fs.getD (2 * j + t) 0)) = ints (fs.take (2 * j + t + 1) ++ List.replicate (2 * n - (2 * j + t + 1)) 0) := by
  have hlt : 2 * j + t < fs.length := by omega
  rw [ints_set, List.set_append_right _ _ (by rw [List.length_take]; omega), List.length_take, Nat.min_eq_left (by omega), Nat.sub_self,
    show 2 * n - (2 * j + t) = (2 * n - (2 * j + t + 1)) + 1 by omega, List.replicate_succ, List.set_cons_zero, List.take_succ_eq_append_getElem hlt, List.append_assoc]
  simp [List.getD, hlt]
def HalfF (wr : World) (B g n j : Nat) (fs : List Int) : Prop := wr.ownsRow B 43 2 (.slice (some ⟨g, 0, none⟩) n n) n (ints (fs.take (2 * j) ++ List.replicate (2 * n - 2 * j) 0))
theorem halfF_store {wr : World} {B g n j t : Nat} {fs : List Int} (h : wr.ownsRow B 43 2 (.slice (some ⟨g, 0, none⟩) n n) n (ints (fs.take (2 * j + t) ++ List.replicate (2 * n - (2 * j + t)) 0))) (hl : fs.length = 2 * n) (hj : j < n) (ht : t < 2) :
    (wr.setCell ⟨g, 2 * j + t, none⟩ (.int .i64 (fs.getD (2 * j + t) 0))).ownsRow B 43 2 (.slice (some ⟨g, 0, none⟩) n n) n (ints (fs.take (2 * j + t + 1) ++ List.replicate (2 * n - (2 * j + t + 1)) 0)) := by
  obtain ⟨h1, h2⟩ := h.stored (2 * j + t) (.int .i64 (fs.getD (2 * j + t) 0))
  rw [set2_half hl hj t ht] at h1
  exact h1
theorem halfF_next {wr : World} {B g n j : Nat} {fs : List Int} (h : HalfF wr B g n j fs) (hl : fs.length = 2 * n) (hj : j < n) : HalfF ((wr.setCell ⟨g, j * 2, none⟩ (.int .i64 (fs.getD (2 * j) 0))).setCell ⟨g, j * 2 + 1, none⟩ (.int .i64 (fs.getD (2 * j + 1) 0))) B g n (j + 1) fs := by
  have h1 := halfF_store (t := 0) h hl hj (by decide)
  have h2 := halfF_store (t := 1) h1 hl hj (by decide)
  unfold HalfF
  rw [Nat.mul_comm j 2]
  exact h2
def ToRelF (B g n : Nat) (fs : List Int) (w : World) (i : Value) (wr : World) : Prop := ∃ j : Nat, j ≤ n ∧ i = .int .i64 (j : Int) ∧ Hid (HalfF wr B g n j fs) ∧ Hid (Below B w wr)
def zero2 : Array Value := #[.int .i64 0, .int .i64 0]
theorem zero2_at : ∀ m, m < 2 → zero2[m]! = .int .i64 0
  | 0, _ => rfl
  | 1, _ => rfl
  | n + 2, h => absurd h (by omega)
theorem made2 (n : Nat) : (madeCells zero2 (n * 2)).toList = ints (List.replicate (2 * n) 0) := by
  apply List.ext_getElem?
  intro j
  rw [Nat.mul_comm n 2]
  by_cases hj : j < 2 * n
  · have h1 := zero2_at (j % 2) (Nat.mod_lt _ (by decide))
    have h2 : zero2.size = 2 := rfl
    simp [madeCells, ints, hj, h2, h1]
  · simp [madeCells, ints, hj]
theorem run_make2 (n : Nat) (hn : n ≤ 1048576) (w : World) : (Instr.makeSlice 28 (.int .i64 (n : Int)) (.int .i64 (n : Int))).run Tryz.prog w = .ok (.slice (some ⟨w.heap.size, 0, none⟩) n n) (w.alloc (.cells (madeCells zero2 (n * 2)) 43)) := by
  obtain ⟨i, hi, hzz⟩ := Option.map_eq_some_iff.1 infoFr
  simp only [Prod.mk.injEq] at hzz
  obtain ⟨hz, hs, hb⟩ := hzz
  have hr := run_make (P := Tryz.prog) w 28 43 i _ Tryz.underlying28 hi hz .i64 .i64 n n (by omega) (Int.le_refl _) (by rw [hb]; omega) (by omega)
  simp only [Int.toNat_natCast, hs] at hr
  exact hr
theorem halfF_start (w : World) (n : Nat) (hn : n ≤ 1048576) (fs : List Int) : HalfF (w.alloc (.cells (madeCells zero2 (n * 2)) 43)) w.heap.size w.heap.size n 0 fs := by
  have := World.ownsRow_lit (e := 43) (size := 2) (base := w.heap.size) w (madeCells zero2 (n * 2)) n (Nat.le_refl _) (by simp [maxLen]; omega) (by rw [size_madeCells])
  rw [made2] at this
  unfold HalfF
  simpa using this
set_option maxHeartbeats 1000000 in
set_option maxRecDepth 100000 in
theorem toF_any (A : Option Addr) (c B0 n : Nat) (fs : List Int) (w : World) (hx : RdF w B0 A n fs) (hB : B0 ≤ w.heap.size) (hn : n ≤ 1048576) (hl : fs.length = 2 * n) :
    Calls Tryz.prog 15 #[.slice A n c] w fun e w' => ∃ g, e = .returned (.slice (some ⟨g, 0, none⟩) n n) ∧ OwnF w' w.heap.size (.slice (some ⟨g, 0, none⟩) n n) n fs ∧ Below w.heap.size w w' := by
  have HX := Lib.hid (hx.more hB)
  have HL := Lib.hid hl
  have hmk := fun w => run_make2 n hn w
  have H0 : Hid (ToRelF w.heap.size w.heap.size n fs w (.int .i64 0) (w.alloc (.cells (madeCells zero2 (n * 2)) 43))) := Lib.hid ⟨0, Nat.zero_le _, rfl, Lib.hid (halfF_start w n hn fs), Lib.hid ((Below.refl _ _).alloc (Nat.le_refl _) _)⟩
  clear hx hl
  go_enter Tryz.func15, Tryz.ntmps15
  go_wp2
  clear hmk
  go_loopw [4] (fun i wr => ToRelF w.heap.size w.heap.size n fs w i wr) (fun i _ => n - (intOf i).toNat)
  case atStart => exact H0.out
  case round =>
    obtain ⟨j, hj, rfl, hrow, hb⟩ := hrel
    by_cases hlt : j < n
    · obtain ⟨b, off, rfl, hbl, c0, c1⟩ := (HX.out.below hb.out (Nat.le_refl _)).at hlt
      have hcell : ∀ i, i < 2 → ∃ x : Int, wr.cell? ⟨w.heap.size, j * 2 + i, none⟩ = some (.int .i64 x) := fun i hi => by
        have hh : wr.ownsRow w.heap.size 43 2 (.slice (some ⟨w.heap.size, 0, none⟩) n n) n (ints (fs.take (2 * j) ++ List.replicate (2 * n - 2 * j) 0)) := hrow.out
        have e1 := World.ownsRow.cellAt hh (j * 2 + i) (by omega)
        rw [ints_get _ (j * 2 + i) (by have := HL.out; simp; omega)] at e1
        exact ⟨_, e1⟩
      have hfz : ∀ i, wr.frozen? ⟨w.heap.size, i, none⟩ = false := fun i => by
        have hh : wr.ownsRow w.heap.size 43 2 (.slice (some ⟨w.heap.size, 0, none⟩) n n) n (ints (fs.take (2 * j) ++ List.replicate (2 * n - 2 * j) 0)) := hrow.out
        exact hh.frozenAt i
      have HN := Lib.hid (fun w1 (h1 : Below wr.heap.size wr w1) => (show ToRelF w.heap.size w.heap.size n fs w (.int .i64 ((j : Int) + 1)) ((w1.setCell ⟨w.heap.size, j * 2, none⟩ (.int .i64 (fs.getD (2 * j) 0))).setCell ⟨w.heap.size, j * 2 + 1, none⟩ (.int .i64 (fs.getD (2 * j + 1) 0))) from ⟨j + 1, hlt, by simp, Lib.hid (halfF_next (show HalfF w1 w.heap.size w.heap.size n j fs from ownsRow_below hrow.out h1) HL.out hlt), Lib.hid (((hb.out.trans (h1.mono hb.out.size)).setCell (p := ⟨w.heap.size, j * 2, none⟩) (Nat.le_refl _) _).setCell (p := ⟨w.heap.size, j * 2 + 1, none⟩) (Nat.le_refl _) _)⟩))
      have HT := Lib.hid (fun W => toFr_any (fs.getD (2 * j) 0) (fs.getD (2 * j + 1) 0) W)
      obtain ⟨x0, y0⟩ := hcell 0 (by decide)
      have hlz : w.heap.size < wr.heap.size := block_lt_of_cell y0
      obtain ⟨x1, y1⟩ := hcell 1 (by decide)
      rw [Nat.add_zero] at y0
      have HY := Lib.hid (And.intro y0 y1)
      have HZ := Lib.hid hfz
      clear hrow hb hcell hfz y0 y1
      generalize fs.getD (2 * j) 0 = f0 at *
      generalize fs.getD (2 * j + 1) 0 = f1 at *
      go_wp2_with fail
      refine (HT.out _).mono ?_
      rintro e w1 ⟨rfl, hb1⟩
      have y0 := (hb1.cell (p := ⟨w.heap.size, j * 2, none⟩) hlz).trans HY.out.1
      have y1 := (hb1.cell (p := ⟨w.heap.size, j * 2 + 1, none⟩) hlz).trans HY.out.2
      have z0 := (hb1.frozen (p := ⟨w.heap.size, j * 2, none⟩) hlz).trans (HZ.out _)
      have z1 := (hb1.frozen (p := ⟨w.heap.size, j * 2 + 1, none⟩) hlz).trans (HZ.out _)
      have HM := Lib.hid (HN.out w1 hb1)
      clear hb1 c0 c1
      go_wp2
      go_roundw
      case rel => exact HM.out
      case measure => simp [intOf]; omega
    · obtain rfl : j = n := by omega
      have HR : Hid (OwnF wr w.heap.size (.slice (some ⟨w.heap.size, 0, none⟩) j j) j fs) := Lib.hid (by
        have := hrow.out
        unfold HalfF at this
        rw [Nat.sub_self, List.replicate_zero, List.append_nil, List.take_of_length_le (by have := HL.out; omega)] at this
        exact this)
      have HB := Lib.hid hb.out
      clear hrow hb
      go_wp2
      go_ret
      exact ⟨w.heap.size, rfl, HR.out, HB.out⟩
end Go.Proofs.YtionognmgcabbaaGreat.CpyF

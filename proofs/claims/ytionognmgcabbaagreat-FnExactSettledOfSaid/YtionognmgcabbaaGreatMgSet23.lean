/- The reference: a list of fractions of any size is given, if all are small. -/
import Derived.Test.YtionognmgcabbaaGreatMgSet06
import Derived.Test.YtionognmgcabbaaGreatMgSet16
import Derived.Test.YtionognmgcabbaaGreatMgSet12
import Derived.Test.YtionognmgcabbaaGreatMgSet22
import Derived.Test.YtionognmgcabbaaGreatMgSet07
import Derived.Test.YtionognmgcabbaaGreatMgSet05
import Derived.Test.YtionognmgcabbaaGreatMgSet00
import Derived.Deep.Slices
namespace Go.Proofs.YtionognmgcabbaaGreat.Wide
open Go.RowKit Go.Proofs.YtionognmgcabbaaGreat Go.Proofs.YtionognmgcabbaaGreat.Base Go.Proofs.YtionognmgcabbaaGreat.Mem Go.Proofs.YtionognmgcabbaaGreat.RatM Go.Proofs.YtionognmgcabbaaGreat.BigM Go.Proofs.YtionognmgcabbaaGreat.Big Go.Proofs.YtionognmgcabbaaGreat.Fine Go.Proofs.YtionognmgcabbaaGreat.Blk Go.Proofs.YtionognmgcabbaaGreat.MemF Go.Proofs.YtionognmgcabbaaGreat.GiveM
set_option linter.unusedVariables false
set_option maxHeartbeats 2000000 in
set_option maxRecDepth 100000 in
theorem giveS_any {v : Value} {n m : Nat} {f : Nat → Rat} {cs : List Value} (w : World) (hx : OwnW w 0 v n f m cs) (hm : m ≤ 400000) (hn : n ≤ 1000) : Calls Tryz.prog 79 #[v] w (FsRet (gN f n) (gR f n) (smallAll f n) w) := by
  obtain ⟨A, c, rfl, _⟩ := hx.form
  have HX := Lib.hid hx
  obtain ⟨i2, ki, kz0, kz1, kz2⟩ := info_parts infoFr
  have H0 := Lib.hid (GRel.start f n w)
  clear hx
  go_enter Tryz.func79, Tryz.ntmps79
  go_wp2
  go_loopw [5, 4] (fun iv sv wr => GRel f n w iv sv wr) (fun iv _ _ => n - (intOf iv).toNat)
  case atStart => exact H0.out
  case round =>
    obtain ⟨i, rfl, hi, HO, HA, HB⟩ := hrel
    clear H0
    by_cases hlt : i < n
    · obtain ⟨g, s', B1, j1, e1, B2, j2, e2, fb, gn, gd, n', d', rfl, hgl, y0, y1, y2, y3, y4, y5, hp'⟩ := (HX.out.below HB.out).at hlt
      have HE : IsW wr (f i) m (.agg #[.bool s', .slice B1 j1 e1, .slice B2 j2 e2, .bool fb, .int .i64 gn, .int .i64 gd]) := ⟨_, _, _, _, _, _, _, _, _, _, _, _, rfl, hp'⟩
      have HG := Lib.hid (give_any wr HE hm)
      have HF : Hid (∀ w1 w2 v' cs t, smallQ (f i) = true → Below wr.heap.size wr w1 → _ → _ → _) := Lib.hid (fun w1 w2 v' cs t hv h1 hown hg => GRel.next (w1 := w1) (w2 := w2) (v' := v') (cs := cs) (t := t) hlt HO.out HA.out hv HB.out h1 hown hg)
      have HNO := Lib.hid (fun h => GiveM.small_no hlt (show smallQ (f i) = false from h))
      clear HE hp' hgl
      generalize f i = q at *
      unfold FRet at HG
      generalize numQ q = P at *
      generalize denQ q = Q at *
      go_wp2_with fail
      refine HG.out.mono ?_
      rintro e w1 ⟨rfl, hb1⟩
      have HB1 := Lib.hid hb1
      clear hb1 y0 y1 y2 y3 y4 y5 HG
      go_upto_region 6 with (fail)
      obtain ⟨W2, hW2⟩ : ∃ W2, W2 = w1.alloc (.cells #[.int .i64 P, .int .i64 Q] 43) := ⟨_, rfl⟩
      rw [← hW2]
      have K2 : Hid (Blk W2 w1.heap.size 43 #[.int .i64 P, .int .i64 Q]) := Lib.hid (by rw [hW2]; exact Blk.new w1 _ _)
      have HB2 : Hid (Below wr.heap.size wr W2) := Lib.hid (by rw [hW2]; exact HB1.out.alloc HB1.out.size _)
      have hsz := HB.out.size
      have hsz2 := HB2.out.size
      cases hs : smallQ q with
      | false =>
        have HN := Lib.hid (HNO.out hs)
        have HBB := Lib.hid (Base.Below.nextA HB.out HB2.out)
        clear hW2 hs HNO HF
        go_wp2
        go_ret2
        rw [HN.out.1, HN.out.2.1, HN.out.2.2]
        exact FsRet.no HBB.out
      | true =>
        have HNN := Lib.hid (fun w3 v' cs t hown hg => HF.out W2 w3 v' cs t hs HB2.out hown hg)
        have HW2 := Lib.hid (World.ownsRow.alloc (ownsRow_below HO.out HB2.out) (.cells #[.int .i64 P, .int .i64 Q] 43))
        have x0 := K2.out.at 0 (v := .int .i64 P) rfl
        have x1 := K2.out.at 1 (v := .int .i64 Q) rfl
        clear hW2 hs HNO HF HO HA HB HB1 HB2
        go_wp2_with (at_builtin; refine wpList_append_own_at _ rfl (.tmp 25) (.tmp 27) 28 rfl w.heap.size 43 i2 (.agg #[.int .i64 0, .int .i64 0]) 2 16 Tryz.underlying28 ki kz0 kz1 kz2 rfl (by decide) _ _ _ rfl HW2.out ⟨W2.heap.size, 0, none⟩ 1 1 [.int .i64 P, .int .i64 Q] rfl rfl ?p1a ?p2a ?p3a ?p4a ?p5a ?_)
        try case p1a => exact MemF.news_two _ _ (by simp)
        try case p2a => exact MemF.ones_two
        try case p3a => first | (simp only [maxLen]; omega) | omega
        try case p4a => omega
        try case p5a => first | (simp only [World.size_alloc]; omega) | omega
        intro v' w3 hown' hg' _ he
        have HN3 := Lib.hid (HNN.out w3 v' _ _ hown' hg')
        clear hown' hg' he HNN HW2
        go_wp2
        go_roundw
        case rel => exact HN3.out
        case measure => simp [intOf]; omega
    · obtain rfl : i = n := by omega
      obtain ⟨A', cp, rfl, _⟩ := HO.out.form
      have HY := Lib.hid (GiveM.small_yes' HA.out)
      clear HA
      go_wp2
      go_ret2
      rw [HY.out.1, HY.out.2.1, HY.out.2.2]
      exact ⟨A', cp, rfl, HO.out, HB.out⟩
end Go.Proofs.YtionognmgcabbaaGreat.Wide
/- The reference: the settled chances of a walk. -/
namespace Go.Proofs.YtionognmgcabbaaGreat.Wide
open Go.RowKit Go.Proofs.YtionognmgcabbaaGreat Go.Proofs.YtionognmgcabbaaGreat.Base Go.Proofs.YtionognmgcabbaaGreat.Mem Go.Proofs.YtionognmgcabbaaGreat.MemF Go.Proofs.YtionognmgcabbaaGreat.RatM Go.Proofs.YtionognmgcabbaaGreat.BigM Go.Proofs.YtionognmgcabbaaGreat.Big Go.Proofs.YtionognmgcabbaaGreat.Fine Go.Proofs.YtionognmgcabbaaGreat.Blk Go.Proofs.YtionognmgcabbaaGreat.GaussM Go.Proofs.YtionognmgcabbaaGreat.WalkM Go.Proofs.YtionognmgcabbaaGreat.ChM Go.Proofs.YtionognmgcabbaaGreat.GiveM
open Go.Proofs.YtionognmgcabbaaGreat.Ratio (below_next cast_ne eqS eqI solB solX sN stN stR stO stV stX wQ st_no st_yes wk_all)
set_option linter.unusedVariables false
theorem RdFF.congrL {w : World} {B n : Nat} {A : Option Addr} {L L' : Nat → Nat} {fs : Nat → List Int} (h : RdFF w B A n L fs) (hL : ∀ i, i < n → L i = L' i) : RdFF w B A n L' fs := fun h0 => by
  obtain ⟨b, off, e, hlt, hc⟩ := h h0
  refine ⟨b, off, e, hlt, fun i hi => ?_⟩
  rw [← hL i hi]
  exact hc i hi
theorem mD6 : mD 6 ≤ 400000 := by decide
set_option maxHeartbeats 2000000 in
set_option maxRecDepth 100000 in
theorem setOfS_any {A : Option Addr} {c B n : Nat} {L : Nat → Nat} {fs : Nat → List Int} (w : World) (hx : RdFF w B A n L fs) (hB : B ≤ w.heap.size) (hL : ∀ i, i < n → L i ≤ 1048576) (hn : n ≤ 1048576) :
    Calls Tryz.prog 33 #[.agg #[.slice A n c]] w (FsRet (stN n L fs) (stR n L fs) (stO n L fs) w) := by
  obtain ⟨W0, hW0⟩ : ∃ W0, W0 = w.alloc (.cells #[.slice A n c] 33) := ⟨_, rfl⟩
  have hb0 : Below w.heap.size w W0 := by rw [hW0]; exact (Below.refl _ _).alloc (Nat.le_refl _) _
  have k0 : Blk W0 w.heap.size 33 #[.slice A n c] := by rw [hW0]; exact Blk.new w _ _
  have K0 := Lib.hid k0
  have HX := Lib.hid ((hx.below hb0 hB).more (Nat.le_trans hB hb0.size))
  have HV := Lib.hid (walkS_any W0 (k0.at 0 (v := .slice A n c) rfl) k0.lt HX.out (Nat.le_refl _) (fun i hi => by have := hL i hi; omega) (by omega))
  have HB0 := Lib.hid hb0
  have HW0 := Lib.hid hW0
  clear hx hb0 hW0 hL k0
  cases hv : wkB n L fs with
  | false =>
    have HEE := Lib.hid (st_no (n := n) (L := L) (fs := fs) (by unfold stV; rw [hv]; rfl))
    rw [hv] at HV
    clear hv
    go_enter Tryz.func33, Tryz.ntmps33
    go_wp2_with fail
    rw [← HW0.out]
    refine HV.out.mono ?_
    rintro e w1 ⟨rfl, hb1⟩
    have HBZ := Lib.hid (Base.Below.nextA HB0.out hb1)
    clear hb1
    go_wp2
    go_ret2
    rw [HEE.out.1, HEE.out.2.1, HEE.out.2.2]
    exact FsRet.no HBZ.out
  | true =>
    rw [hv] at HV
    obtain ⟨hn1, hn6, hLn, hfs, hsum, hdg⟩ := wk_all hv
    have HST := Lib.hid (fun W (h : Below W0.heap.size W0 W) => settledS_any (c := c) W ((K0.out.belowS h).at 0 (v := .slice A n c) rfl) (K0.out.belowS h).lt (RdFF.congrL (L' := fun _ => n) (HX.out.below h (Nat.le_refl _)) hLn) h.size hn1 hn6 hfs hdg)
    have HVB := Lib.hid hv
    clear hv hLn hfs hsum hdg
    go_enter Tryz.func33, Tryz.ntmps33
    go_wp2_with fail
    rw [← HW0.out]
    refine HV.out.mono ?_
    rintro e w1 ⟨rfl, hb1⟩
    have HW1 := Lib.hid hb1
    have HS3 := Lib.hid (HST.out w1 hb1)
    clear hb1 HV HST
    go_wp2_with fail
    refine HS3.out.mono ?_
    rintro e w4 ⟨v, cs, rfl, ho, hb4⟩
    have HW4 := Lib.hid (Base.Below.nextA HW1.out hb4)
    have hs3 := HW1.out.size
    rw [show (fun i => fq (fs i)) = wQ fs from rfl] at ho ⊢
    cases hsb : solB (eqS n (wQ fs)) n n with
    | false =>
      have HEE := Lib.hid (st_no (n := n) (L := L) (fs := fs) (by unfold stV; rw [HVB.out, hsb]; rfl))
      have HBZ := Lib.hid (Base.Below.nextA HB0.out HW4.out)
      clear hsb ho hb4 HW1 HW4 HS3
      go_wp2
      go_ret2
      rw [HEE.out.1, HEE.out.2.1, HEE.out.2.2]
      exact FsRet.no HBZ.out
    | true =>
      have HEE := Lib.hid (st_yes (n := n) (L := L) (fs := fs) (by unfold stV; rw [HVB.out, hsb]; rfl))
      have hsn : sN (eqS n (wQ fs)) n n = n := by
        unfold sN
        rw [hsb, if_pos rfl]
      rw [hsn] at ho
      obtain ⟨A4, c4, rfl, _⟩ := ho.form
      have HF := Lib.hid (giveS_any w4 (ho.base (Nat.zero_le _)) mD6 (show n ≤ 1000 by omega))
      rw [show solX (eqS n (wQ fs)) n n = stX n fs from rfl, ← HEE.out.1, ← HEE.out.2.1, ← HEE.out.2.2] at HF
      clear hsb ho hb4 HW1 HS3 hsn
      go_wp2_with fail
      refine HF.out.mono ?_
      rintro e w6 ⟨A6, c6, rfl, ho6, hb6⟩
      have HO := Lib.hid (And.intro ho6 (Base.Below.nextA HB0.out (Base.Below.nextA HW4.out hb6)))
      have hs4 : w.heap.size ≤ w4.heap.size := Nat.le_trans HB0.out.size HW4.out.size
      clear ho6 hb6
      go_wp2
      go_ret2
      exact ⟨A6, c6, rfl, ownsRow_base HO.out.1 hs4, HO.out.2⟩
end Go.Proofs.YtionognmgcabbaaGreat.Wide
/- The laws' sizes and copies of lists of fractions. -/
namespace Go.Proofs.YtionognmgcabbaaGreat.CpyF
open Go.RowKit Go.Proofs.YtionognmgcabbaaGreat Go.Proofs.YtionognmgcabbaaGreat.Base Go.Proofs.YtionognmgcabbaaGreat.Mem Go.Proofs.YtionognmgcabbaaGreat.Cpy Go.Proofs.YtionognmgcabbaaGreat.MemF Go.Proofs.YtionognmgcabbaaGreat.WalkM
set_option linter.unusedVariables false
theorem szF_any (A : Option Addr) (n c : Nat) (k : Int) (w : World) (hn : n ≤ 9223372036854775807) (hk : 0 ≤ k) (hk2 : k ≤ 1048576) :
    Calls Tryz.prog 12 #[.slice A n c, .int .i64 k] w fun e w' => ∃ r : Int, e = .returned (.int .i64 r) ∧ (r = -1 ∨ (0 ≤ r ∧ r = k - n)) ∧ w = w' := by
  by_cases h0 : k - (n : Int) < 0
  · go_enter Tryz.func12, Tryz.ntmps12
    go_wp2
    go_ret
    exact ⟨-1, rfl, .inl rfl, rfl⟩
  · go_enter Tryz.func12, Tryz.ntmps12
    go_wp2
    go_ret
    exact ⟨k - n, rfl, .inr ⟨by omega, rfl⟩, rfl⟩
/-! ### Fractions that are copied -/
theorem toFr_any (a b : Int) (w : World) : Calls Tryz.prog 38 #[.agg #[.int .i64 a, .int .i64 b]] w fun e w' => e = .returned (.agg #[.int .i64 a, .int .i64 b]) ∧ Below w.heap.size w w' := by
  go_enter Tryz.func38, Tryz.ntmps38
  go_wp2
  exact bodyPost_ret (v := .agg #[.int .i64 a, .int .i64 b]) (by simp [results, Tryz.results38, go_sem]) rfl ⟨rfl, (((Below.refl _ _).alloc (Nat.le_refl _) _).alloc (by simp) _).alloc (by simp; omega) _⟩
theorem set2_half {fs : List Int} {n j : Nat} (hl : fs.length = 2 * n) (hj : j < n) (t : Nat) (ht : t < 2) :
    (ints (fs.take (2 * j + t) ++ List.replicate (2 * n - (2 * j + t)) 0)).set (2 * j + t) (.int .i64 (fs.getD (2 * j + t) 0)) = ints (fs.take (2 * j + t + 1) ++ List.replicate (2 * n - (2 * j + t + 1)) 0) := by
  have hlt : 2 * j + t < fs.length := by omega
  rw [ints_set, List.set_append_right _ _ (by rw [List.length_take]; omega), List.length_take, Nat.min_eq_left (by omega), Nat.sub_self,
    show 2 * n - (2 * j + t) = (2 * n - (2 * j + t + 1)) + 1 by omega, List.replicate_succ, List.set_cons_zero, List.take_succ_eq_append_getElem hlt, List.append_assoc]
  simp [List.getD, hlt]
def HalfF (wr : World) (B g n j : Nat) (fs : List Int) : Prop := wr.ownsRow B 43 2 (.slice (some ⟨g, 0, none⟩) n n) n (ints (fs.take (2 * j) ++ List.replicate (2 * n - 2 * j) 0))
theorem halfF_store {wr : World} {B g n j t : Nat} {fs : List Int} (h : wr.ownsRow B 43 2 (.slice (some ⟨g, 0, none⟩) n n) n (ints (fs.take (2 * j + t) ++ List.replicate (2 * n - (2 * j + t)) 0))) (hl : fs.length = 2 * n) (hj : j < n) (ht : t < 2) :
    (wr.setCell ⟨g, 2 * j + t, none⟩ (.int .i64 (fs.getD (2 * j + t) 0))).ownsRow B 43 2 (.slice (some ⟨g, 0, none⟩) n n) n (ints (fs.take (2 * j + t + 1) ++ List.replicate (2 * n - (2 * j + t + 1)) 0)) := by
  obtain ⟨h1, h2⟩ := h.stored (2 * j + t) (.int .i64 (fs.getD (2 * j + t) 0))
  rw [set2_half hl hj t ht] at h1
  exact h1
theorem halfF_next {wr : World} {B g n j : Nat} {fs : List Int} (h : HalfF wr B g n j fs) (hl : fs.length = 2 * n) (hj : j < n) : HalfF ((wr.setCell ⟨g, j * 2, none⟩ (.int .i64 (fs.getD (2 * j) 0))).setCell ⟨g, j * 2 + 1, none⟩ (.int .i64 (fs.getD (2 * j + 1) 0))) B g n (j + 1) fs := by
  have h1 := halfF_store (t := 0) h hl hj (by decide)
  have h2 := halfF_store (t := 1) h1 hl hj (by decide)
  unfold HalfF
  rw [Nat.mul_comm j 2]
  exact h2
def ToRelF (B g n : Nat) (fs : List Int) (w : World) (i : Value) (wr : World) : Prop := ∃ j : Nat, j ≤ n ∧ i = .int .i64 (j : Int) ∧ Hid (HalfF wr B g n j fs) ∧ Hid (Below B w wr)
def zero2 : Array Value := #[.int .i64 0, .int .i64 0]
theorem zero2_at : ∀ m, m < 2 → zero2[m]! = .int .i64 0
  | 0, _ => rfl
  | 1, _ => rfl
  | n + 2, h => absurd h (by omega)
theorem made2 (n : Nat) : (madeCells zero2 (n * 2)).toList = ints (List.replicate (2 * n) 0) := by
  apply List.ext_getElem?
  intro j
  rw [Nat.mul_comm n 2]
  by_cases hj : j < 2 * n
  · have h1 := zero2_at (j % 2) (Nat.mod_lt _ (by decide))
    have h2 : zero2.size = 2 := rfl
    simp [madeCells, ints, hj, h2, h1]
  · simp [madeCells, ints, hj]
theorem run_make2 (n : Nat) (hn : n ≤ 1048576) (w : World) : (Instr.makeSlice 28 (.int .i64 (n : Int)) (.int .i64 (n : Int))).run Tryz.prog w = .ok (.slice (some ⟨w.heap.size, 0, none⟩) n n) (w.alloc (.cells (madeCells zero2 (n * 2)) 43)) := by
  obtain ⟨i, hi, hzz⟩ := Option.map_eq_some_iff.1 infoFr
  simp only [Prod.mk.injEq] at hzz
  obtain ⟨hz, hs, hb⟩ := hzz
  have hr := run_make (P := Tryz.prog) w 28 43 i _ Tryz.underlying28 hi hz .i64 .i64 n n (by omega) (Int.le_refl _) (by rw [hb]; omega) (by omega)
  simp only [Int.toNat_natCast, hs] at hr
  exact hr
theorem halfF_start (w : World) (n : Nat) (hn : n ≤ 1048576) (fs : List Int) : HalfF (w.alloc (.cells (madeCells zero2 (n * 2)) 43)) w.heap.size w.heap.size n 0 fs := by
  have := World.ownsRow_lit (e := 43) (size := 2) (base := w.heap.size) w (madeCells zero2 (n * 2)) n (Nat.le_refl _) (by simp [maxLen]; omega) (by rw [size_madeCells])
  rw [made2] at this
  unfold HalfF
  simpa using this
set_option maxHeartbeats 1000000 in
set_option maxRecDepth 100000 in
theorem toF_any (A : Option Addr) (c B0 n : Nat) (fs : List Int) (w : World) (hx : RdF w B0 A n fs) (hB : B0 ≤ w.heap.size) (hn : n ≤ 1048576) (hl : fs.length = 2 * n) :
    Calls Tryz.prog 15 #[.slice A n c] w fun e w' => ∃ g, e = .returned (.slice (some ⟨g, 0, none⟩) n n) ∧ OwnF w' w.heap.size (.slice (some ⟨g, 0, none⟩) n n) n fs ∧ Below w.heap.size w w' := by
  have HX := Lib.hid (hx.more hB)
  have HL := Lib.hid hl
  have hmk := fun w => run_make2 n hn w
  have H0 : Hid (ToRelF w.heap.size w.heap.size n fs w (.int .i64 0) (w.alloc (.cells (madeCells zero2 (n * 2)) 43))) := Lib.hid ⟨0, Nat.zero_le _, rfl, Lib.hid (halfF_start w n hn fs), Lib.hid ((Below.refl _ _).alloc (Nat.le_refl _) _)⟩
  clear hx hl
  go_enter Tryz.func15, Tryz.ntmps15
  go_wp2
  clear hmk
  go_loopw [4] (fun i wr => ToRelF w.heap.size w.heap.size n fs w i wr) (fun i _ => n - (intOf i).toNat)
  case atStart => exact H0.out
  case round =>
    obtain ⟨j, hj, rfl, hrow, hb⟩ := hrel
    by_cases hlt : j < n
    · obtain ⟨b, off, rfl, hbl, c0, c1⟩ := (HX.out.below hb.out (Nat.le_refl _)).at hlt
      have hcell : ∀ i, i < 2 → ∃ x : Int, wr.cell? ⟨w.heap.size, j * 2 + i, none⟩ = some (.int .i64 x) := fun i hi => by
        have hh : wr.ownsRow w.heap.size 43 2 (.slice (some ⟨w.heap.size, 0, none⟩) n n) n (ints (fs.take (2 * j) ++ List.replicate (2 * n - 2 * j) 0)) := hrow.out
        have e1 := World.ownsRow.cellAt hh (j * 2 + i) (by omega)
        rw [ints_get _ (j * 2 + i) (by have := HL.out; simp; omega)] at e1
        exact ⟨_, e1⟩
      have hfz : ∀ i, wr.frozen? ⟨w.heap.size, i, none⟩ = false := fun i => by
        have hh : wr.ownsRow w.heap.size 43 2 (.slice (some ⟨w.heap.size, 0, none⟩) n n) n (ints (fs.take (2 * j) ++ List.replicate (2 * n - 2 * j) 0)) := hrow.out
        exact hh.frozenAt i
      have HN := Lib.hid (fun w1 (h1 : Below wr.heap.size wr w1) => (show ToRelF w.heap.size w.heap.size n fs w (.int .i64 ((j : Int) + 1)) ((w1.setCell ⟨w.heap.size, j * 2, none⟩ (.int .i64 (fs.getD (2 * j) 0))).setCell ⟨w.heap.size, j * 2 + 1, none⟩ (.int .i64 (fs.getD (2 * j + 1) 0))) from ⟨j + 1, hlt, by simp, Lib.hid (halfF_next (show HalfF w1 w.heap.size w.heap.size n j fs from ownsRow_below hrow.out h1) HL.out hlt), Lib.hid (((hb.out.trans (h1.mono hb.out.size)).setCell (p := ⟨w.heap.size, j * 2, none⟩) (Nat.le_refl _) _).setCell (p := ⟨w.heap.size, j * 2 + 1, none⟩) (Nat.le_refl _) _)⟩))
      have HT := Lib.hid (fun W => toFr_any (fs.getD (2 * j) 0) (fs.getD (2 * j + 1) 0) W)
      obtain ⟨x0, y0⟩ := hcell 0 (by decide)
      have hlz : w.heap.size < wr.heap.size := block_lt_of_cell y0
      obtain ⟨x1, y1⟩ := hcell 1 (by decide)
      rw [Nat.add_zero] at y0
      have HY := Lib.hid (And.intro y0 y1)
      have HZ := Lib.hid hfz
      clear hrow hb hcell hfz y0 y1
      generalize fs.getD (2 * j) 0 = f0 at *
      generalize fs.getD (2 * j + 1) 0 = f1 at *
      go_wp2_with fail
      refine (HT.out _).mono ?_
      rintro e w1 ⟨rfl, hb1⟩
      have y0 := (hb1.cell (p := ⟨w.heap.size, j * 2, none⟩) hlz).trans HY.out.1
      have y1 := (hb1.cell (p := ⟨w.heap.size, j * 2 + 1, none⟩) hlz).trans HY.out.2
      have z0 := (hb1.frozen (p := ⟨w.heap.size, j * 2, none⟩) hlz).trans (HZ.out _)
      have z1 := (hb1.frozen (p := ⟨w.heap.size, j * 2 + 1, none⟩) hlz).trans (HZ.out _)
      have HM := Lib.hid (HN.out w1 hb1)
      clear hb1 c0 c1
      go_wp2
      go_roundw
      case rel => exact HM.out
      case measure => simp [intOf]; omega
    · obtain rfl : j = n := by omega
      have HR : Hid (OwnF wr w.heap.size (.slice (some ⟨w.heap.size, 0, none⟩) j j) j fs) := Lib.hid (by
        have := hrow.out
        unfold HalfF at this
        rw [Nat.sub_self, List.replicate_zero, List.append_nil, List.take_of_length_le (by have := HL.out; omega)] at this
        exact this)
      have HB := Lib.hid hb.out
      clear hrow hb
      go_wp2
      go_ret
      exact ⟨w.heap.size, rfl, HR.out, HB.out⟩
end Go.Proofs.YtionognmgcabbaaGreat.CpyF
/- The laws' sizes, copies, comparison and marks of lists of lists of fractions, and of walks. -/
namespace Go.Proofs.YtionognmgcabbaaGreat.CpyW
open Go.RowKit Go.Proofs.YtionognmgcabbaaGreat Go.Proofs.YtionognmgcabbaaGreat.Base Go.Proofs.YtionognmgcabbaaGreat.Mem Go.Proofs.YtionognmgcabbaaGreat.Cpy Go.Proofs.YtionognmgcabbaaGreat.MemF Go.Proofs.YtionognmgcabbaaGreat.WalkM Go.Proofs.YtionognmgcabbaaGreat.CpyF Go.Proofs.YtionognmgcabbaaGreat.Blk
set_option linter.unusedVariables false
def totL (L : Nat → Nat) : Nat → Nat
  | 0 => 0
  | n + 1 => totL L n + L n
theorem le_totL {L : Nat → Nat} : ∀ {n i : Nat}, i < n → L i ≤ totL L n
  | 0, _, h => absurd h (Nat.not_lt_zero _)
  | n + 1, i, h => by
    rw [totL]
    rcases Nat.lt_or_ge i n with h1 | h1
    · have := le_totL (L := L) h1; omega
    · obtain rfl : i = n := by omega
      omega
theorem totL_le {L : Nat → Nat} : ∀ {n i : Nat}, i ≤ n → totL L i ≤ totL L n
  | 0, i, h => by rw [Nat.le_zero.1 h]; exact Nat.le_refl _
  | n + 1, i, h => by
    rcases Nat.lt_or_ge i (n + 1) with h1 | h1
    · have := totL_le (L := L) (show i ≤ n by omega); rw [totL]; omega
    · obtain rfl : i = n + 1 := by omega
      exact Nat.le_refl _
/-- a number below 0, or all elements and lists counted fit -/
def SzRetF (k : Int) (n : Nat) (L : Nat → Nat) (w : World) (e : Ending) (w' : World) : Prop := ∃ r : Int, e = .returned (.int .i64 r) ∧ (r = -1 ∨ (0 ≤ r ∧ r = k - n - totL L n)) ∧ w = w'
set_option maxHeartbeats 1000000 in
theorem szFF_any (A : Option Addr) (c B n : Nat) (k : Int) (L : Nat → Nat) (fs : Nat → List Int) (w : World) (hx : RdFF w B A n L fs) (hn : n ≤ 9223372036854775807) (hL : ∀ i, i < n → L i ≤ 9223372036854775807) (hk : 0 ≤ k) (hk2 : k ≤ 1048576) :
    Calls Tryz.prog 50 #[.slice A n c, .int .i64 k] w (SzRetF k n L w) := by
  have HN := Lib.hid hL
  have HX := Lib.hid hx
  clear hL hx
  by_cases h0 : k - (n : Int) < 0
  · go_enter Tryz.func50, Tryz.ntmps50
    go_wp2
    go_ret
    exact ⟨-1, rfl, .inl rfl, rfl⟩
  · go_enter Tryz.func50, Tryz.ntmps50
    go_wp2
    go_loop [1, 5] (fun q i => ∃ j : Nat, j ≤ n ∧ i = .int .i64 (j : Int) ∧ ∃ r : Int, q = .int .i64 r ∧ 0 ≤ r ∧ r ≤ 1048576 ∧ Hid (r = k - n - totL L j)) (fun _ i => n - (intOf i).toNat)
    case atStart => exact ⟨0, Nat.zero_le _, rfl, _, rfl, by omega, by omega, Lib.hid (by simp [totL])⟩
    case round =>
      obtain ⟨j, hj, rfl, r, rfl, r0, r1, hr⟩ := hrel
      by_cases hlt : j < n
      · obtain ⟨b, off, A1, c1, rfl, _, g1, _⟩ := HX.out.at hlt
        have hs : Hid (totL L (j + 1) = totL L j + L j) := Lib.hid rfl
        have HC := Lib.hid (fun W => szF_any A1 (L j) c1 r W (HN.out j hlt) r0 r1)
        generalize L j = l at *
        go_wp2_with fail
        refine (HC.out _).mono ?_
        rintro e w' ⟨r', rfl, hr', rfl⟩
        rcases hr' with rfl | ⟨q0, q1⟩
        · go_wp2
          go_ret
          exact ⟨-1, rfl, .inl rfl, rfl⟩
        · have HQ : Hid (r' = k - n - totL L (j + 1)) := Lib.hid (by rw [hs.out, q1, hr.out]; simp; omega)
          have r2 : r' ≤ 1048576 := by omega
          clear q1 hs hr
          go_wp2
          go_round
          case rel => exact ⟨j + 1, by omega, by go_num, r', rfl, q0, r2, HQ⟩
          case measure => simp [intOf]; omega
      · obtain rfl : j = n := by omega
        go_wp2
        go_ret
        exact ⟨r, rfl, .inr ⟨r0, hr.out⟩, rfl⟩
/-! ### Copies -/
/-- lists of the call's own, without the list that holds them -/
structure RowsF (w : World) (B j : Nat) (us : List Value) (L : Nat → Nat) (fs : Nat → List Int) : Prop where
  len : us.length = j
  inner : ∀ i, i < j → OwnF w B (us.getD i undef) (L i) (fs i)
  apart : ∀ i k g, i < k → k < j → (us.getD i undef).ownBlock = some g → (us.getD k undef).ownBlock ≠ some g
theorem RowsF.nil (w : World) (B : Nat) (L : Nat → Nat) (fs : Nat → List Int) : RowsF w B 0 [] L fs := ⟨rfl, fun i hi => absurd hi (Nat.not_lt_zero i), fun i j g _ hj => absurd hj (Nat.not_lt_zero j)⟩
theorem RowsF.push {wr w1 w2 : World} {B n j : Nat} {v u : Value} {us vs : List Value} {L : Nat → Nat} {fs : Nat → List Int} (h : RowsF wr B j us L fs) (h1 : Below wr.heap.size wr w1)
    (hu : OwnF w1 wr.heap.size u (L j) (fs j)) (ho : w1.ownsRow B 28 1 v n vs) (hg : w1.grownBy w2 v.ownBlock) (hB : B ≤ wr.heap.size) :
    RowsF w2 B (j + 1) (us ++ [u]) L fs := by
  have hl := h.len
  refine ⟨by simp [hl], fun i hi => ?_, fun i k g hik hk hg1 hg2 => ?_⟩
  · rcases Nat.lt_or_ge i j with hlt | hge
    · rw [show (us ++ [u]).getD i undef = us.getD i undef by simp [List.getD, List.getElem?_append_left (show i < us.length by omega)]]
      have hi1 := (h.inner i hlt).below h1
      exact World.ownsRow.kept hi1 hg (own_ne hi1 ho (by decide))
    · obtain rfl : i = j := by omega
      rw [show (us ++ [u]).getD i undef = u by simp [List.getD, ← hl]]
      exact World.ownsRow.kept (ownsRow_base hu hB) hg (own_ne hu ho (by decide))
  · have hlt : i < j := by omega
    rw [show (us ++ [u]).getD i undef = us.getD i undef by simp [List.getD, List.getElem?_append_left (show i < us.length by omega)]] at hg1
    rcases Nat.lt_or_ge k j with hk1 | hge
    · rw [show (us ++ [u]).getD k undef = us.getD k undef by simp [List.getD, List.getElem?_append_left (show k < us.length by omega)]] at hg2
      exact h.apart i k g hik hk1 hg1 hg2
    · obtain rfl : k = j := by omega
      rw [show (us ++ [u]).getD k undef = u by simp [List.getD, ← hl]] at hg2
      obtain ⟨_, _, _, b1⟩ := ownsRow_block (h.inner i hlt) hg1
      obtain ⟨_, _, b2, _⟩ := ownsRow_block hu hg2
      omega
/-- the lists are the call's own, in blocks from B on that all differ -/
structure OwnFF (w : World) (B : Nat) (v : Value) (n : Nat) (L : Nat → Nat) (fs : Nat → List Int) (us : List Value) : Prop where
  outer : w.ownsRow B 28 1 v n us
  rows : RowsF w B n us L fs
theorem OwnFF.below {w w' : World} {B n : Nat} {v : Value} {L : Nat → Nat} {fs : Nat → List Int} {us : List Value} (h : OwnFF w B v n L fs us) (hb : Below w.heap.size w w') : OwnFF w' B v n L fs us :=
  ⟨ownsRow_below h.outer hb, h.rows.len, fun i hi => (h.rows.inner i hi).below hb, h.rows.apart⟩
theorem OwnFF.above {w w' : World} {B n : Nat} {v : Value} {L : Nat → Nat} {fs : Nat → List Int} {us : List Value} (h : OwnFF w B v n L fs us) (hb : Above B w w') : OwnFF w' B v n L fs us :=
  ⟨ownsRow_above h.outer hb, h.rows.len, fun i hi => OwnF_above (h.rows.inner i hi) hb, h.rows.apart⟩
theorem OwnFF.rd {w : World} {B n c : Nat} {A : Option Addr} {L : Nat → Nat} {fs : Nat → List Int} {us : List Value} (h : OwnFF w B (.slice A n c) n L fs us) : RdFF w w.heap.size A n L fs := fun h0 => by
  obtain ⟨A', c', e, hf⟩ := ownsRow_form h.outer
  injection e with e1 e2 e3
  subst e1 e3
  obtain ⟨g, rfl, _, hlt⟩ := hf h0
  refine ⟨g, 0, rfl, hlt, fun i hi => ?_⟩
  have hi' := h.rows.inner i hi
  obtain ⟨A2, c2, e2, _⟩ := hi'.form
  rw [e2] at hi'
  refine ⟨A2, c2, ?_, hi'.rd⟩
  rw [Nat.zero_add, World.ownsRow.cellAt h.outer i (by omega), ← e2]
  have hl : i < us.length := by rw [h.rows.len]; exact hi
  simp [List.getD, hl]
def ToRelFF (B g n : Nat) (L : Nat → Nat) (fs : Nat → List Int) (w : World) (i : Value) (wr : World) : Prop :=
  ∃ (j : Nat) (us : List Value), j ≤ n ∧ i = .int .i64 (j : Int) ∧ Hid (wr.ownsRow B 28 1 (.slice (some ⟨g, 0, none⟩) n n) n (us ++ List.replicate (n - j) (.slice none 0 0))) ∧ Hid (RowsF wr B j us L fs) ∧ Hid (Below B w wr)
theorem ToRelFF.next {B g n j : Nat} {L : Nat → Nat} {fs : Nat → List Int} {us : List Value} {w wr w1 : World} {u : Value} (hj : j < n) (hg : B ≤ g)
    (ho : wr.ownsRow B 28 1 (.slice (some ⟨g, 0, none⟩) n n) n (us ++ List.replicate (n - j) (.slice none 0 0))) (hr : RowsF wr B j us L fs) (hb : Below B w wr) (hB : B ≤ wr.heap.size)
    (h1 : Below wr.heap.size wr w1) (hu : OwnF w1 wr.heap.size u (L j) (fs j)) :
    ToRelFF B g n L fs w (.int .i64 ((j : Int) + 1)) (w1.setCell ⟨g, j, none⟩ u) := by
  have ho1 := ownsRow_below ho h1
  obtain ⟨s1, s2⟩ := ho1.stored j u
  rw [us_set hr.len hj] at s1
  exact ⟨j + 1, us ++ [u], hj, by simp, Lib.hid s1, Lib.hid (hr.push h1 hu ho1 s2 hB), Lib.hid ((hb.trans (h1.mono hB)).setCell hg _)⟩
theorem infoFS : (Tryz.prog.info? 28).map (fun i => (i.zero, i.size, i.bytes)) = some (some (.slice none 0 0), 1, 24) := by kernel_rfl
set_option maxHeartbeats 1000000 in
set_option maxRecDepth 100000 in
theorem toFF_any (A : Option Addr) (c B0 n : Nat) (L : Nat → Nat) (fs : Nat → List Int) (w : World) (hx : RdFF w B0 A n L fs) (hB : B0 ≤ w.heap.size) (hn : n ≤ 1048576) (hL : ∀ i, i < n → L i ≤ 1048576) (hl : ∀ i, i < n → (fs i).length = 2 * L i) :
    Calls Tryz.prog 51 #[.slice A n c] w fun e w' => ∃ g us, e = .returned (.slice (some ⟨g, 0, none⟩) n n) ∧ OwnFF w' w.heap.size (.slice (some ⟨g, 0, none⟩) n n) n L fs us ∧ Below w.heap.size w w' := by
  have hmk := run_make_row' (P := Tryz.prog) 31 28 (.slice none 0 0) 24 Tryz.underlying31 infoFS rfl .i64 .i64 n (by omega) (by omega)
  have H0 : Hid (ToRelFF w.heap.size w.heap.size n L fs w (.int .i64 0) (w.alloc (.cells (madeCells #[.slice none 0 0] n) 28))) := Lib.hid (by
    refine ⟨0, [], Nat.zero_le _, rfl, Lib.hid ?_, Lib.hid (RowsF.nil _ _ _ _), Lib.hid ((Below.refl _ _).alloc (Nat.le_refl _) _)⟩
    have := World.ownsRow_lit (e := 28) (size := 1) (base := w.heap.size) w (madeCells #[.slice none 0 0] n) n (Nat.le_refl _) (by simp [maxLen]; omega) (by simp [size_madeCells])
    rw [toList_madeCells_one] at this
    simpa using this)
  have HX := Lib.hid (hx.more hB)
  have HL := Lib.hid (And.intro hL hl)
  clear hx hL hl
  go_enter Tryz.func51, Tryz.ntmps51
  go_wp2
  clear hmk
  go_loopw [4] (fun i wr => ToRelFF w.heap.size w.heap.size n L fs w i wr) (fun i _ => n - (intOf i).toNat)
  case atStart => exact H0.out
  case round =>
    obtain ⟨j, us, hj, rfl, hrow, hR, hb⟩ := hrel
    clear H0
    by_cases hlt : j < n
    · obtain ⟨b, off, A1, c1, rfl, hbl, g1, r1⟩ := (HX.out.below hb.out (Nat.le_refl _)).at hlt
      have hcell := (hrow.out.cellAt j (by omega)).trans (us_get hR.out.len hlt _)
      have hfz := hrow.out.frozenAt j
      have hsz : w.heap.size < wr.heap.size := block_lt_of_cell hcell
      have hcall := Lib.hid (toF_any A1 c1 w.heap.size (L j) (fs j) wr r1 (by omega) (HL.out.1 j hlt) (HL.out.2 j hlt))
      have HN := Lib.hid (fun (w1 : World) (u : Value) => ToRelFF.next (w := w) (w1 := w1) (u := u) hlt (Nat.le_refl _) hrow.out hR.out hb.out (by omega))
      have hblt : b < wr.heap.size := by omega
      clear hrow hb hR r1
      generalize L j = l at *
      generalize fs j = ys at *
      go_wp2_with fail
      refine hcall.out.mono ?_
      rintro e w1 ⟨g, rfl, hu, h1⟩
      have e1 := (h1.cell (p := ⟨w.heap.size, j, none⟩) hsz).trans hcell
      have e2 := (h1.frozen (p := ⟨w.heap.size, j, none⟩) hsz).trans hfz
      have HM := Lib.hid (HN.out w1 _ h1 hu)
      clear h1 hu hcell hfz
      go_wp2
      go_roundw
      case rel => exact HM.out
      case measure => simp [intOf]; omega
    · obtain rfl : j = n := by omega
      have HO : Hid (OwnFF wr w.heap.size (.slice (some ⟨w.heap.size, 0, none⟩) j j) j L fs us) := Lib.hid (by
        have hrow := hrow.out
        rw [Nat.sub_self, List.replicate_zero, List.append_nil] at hrow
        exact ⟨hrow, hR.out⟩)
      have HB := hb
      clear hrow hb hR
      go_wp2
      go_ret
      exact ⟨w.heap.size, us, rfl, HO.out, HB.out⟩
/-! ### Comparison -/
set_option maxHeartbeats 1000000 in
set_option maxRecDepth 100000 in
theorem eqFF_yes (A A' : Option Addr) (c c' B B' n : Nat) (L : Nat → Nat) (fs : Nat → List Int) (w : World) (hx : RdFF w B A n L fs) (hy : RdFF w B' A' n L fs) (hB : B ≤ w.heap.size) (hB' : B' ≤ w.heap.size) (hm : n ≤ 1099511627776) (hL : ∀ i, i < n → L i ≤ 1099511627776) :
    Calls Tryz.prog 53 #[.slice A n c, .slice A' n c'] w fun e w' => e = .returned (.bool true) ∧ Below w.heap.size w w' := by
  have HX := Lib.hid (hx.more hB)
  have HY := Lib.hid (hy.more hB')
  have HL := Lib.hid hL
  clear hx hy hL
  go_enter Tryz.func53, Tryz.ntmps53
  go_wp2
  go_loopw [5] (fun i wr => ∃ j : Nat, j ≤ n ∧ i = .int .i64 (j : Int) ∧ Hid (Below w.heap.size w wr)) (fun i _ => n - (intOf i).toNat)
  case atStart => exact ⟨0, Nat.zero_le _, rfl, Lib.hid (Below.refl _ _)⟩
  case round =>
    obtain ⟨j, hj, rfl, HB⟩ := hrel
    by_cases hlt : j < n
    · obtain ⟨b, off, A1, c1, rfl, hbl, g1, r1⟩ := (HX.out.below HB.out (Nat.le_refl _)).at hlt
      obtain ⟨b', off', A2, c2, rfl, hbl', g2, r2⟩ := (HY.out.below HB.out (Nat.le_refl _)).at hlt
      have hsz := HB.out.size
      have HC : Hid (∀ W, Below wr.heap.size wr W → Calls Tryz.prog 17 #[.slice A1 (L j) c1, .slice A2 (L j) c2] W fun e w' => e = .returned (.bool true) ∧ Below W.heap.size W w') := Lib.hid (fun W hW => eqF_yes A1 A2 c1 c2 _ _ (L j) (fs j) W (r1.below hW hsz) (r2.below hW hsz) (Nat.le_trans hsz hW.size) (Nat.le_trans hsz hW.size) (HL.out j hlt))
      have HG := Lib.hid (And.intro g1 g2)
      have hl1 : b < wr.heap.size := Nat.lt_of_lt_of_le hbl hsz
      have hl2 : b' < wr.heap.size := Nat.lt_of_lt_of_le hbl' hsz
      clear r1 r2 g1 g2
      generalize L j = l at *
      go_wp2
      (refine wp_region_below (by kernel_rfl) (by kernel_rfl) ?_; (repeat (refine wpQuiet_step (fun K hK => ?_); go_simp; first | (refine hK _ ?_; clear hK K) | (apply Exists.intro; refine ⟨fun wq hq => ?_, hK _ ?_⟩; (first | rfl | (have c0 := (hq.cell (p := ⟨b, off + j, none⟩) hl1).trans HG.out.1; have d0 := (hq.cell (p := ⟨b', off' + j, none⟩) hl2).trans HG.out.2; first | (go_simp; done) | (go_simp; rfl) | (first | (go_at_call 17; refine (HC.out _ hq).mono ?_; rintro e w1 ⟨rfl, hb1⟩; exact ⟨rfl, Base.Below.nextA hq hb1⟩)))); clear hK K))); refine wpQuiet_nil ?_; intro wq hq)
      have HB1 := Lib.hid (Base.Below.nextA HB.out hq)
      clear hq
      go_wp2
      go_roundw
      case rel => exact ⟨j + 1, hlt, by go_num, HB1⟩
      case measure => simp [intOf]; omega
    · obtain rfl : j = n := by omega
      go_wp2
      go_ret
      exact ⟨rfl, HB.out⟩
/-! ### Marks -/
/-- some fractions are the call's own in each list -/
def AnyRows (w : World) (B n : Nat) (us : List Value) (L : Nat → Nat) : Prop := ∀ i, i < n → ∃ fs, OwnF w B (us.getD i undef) (L i) fs
def MarkRelFF (B C n k : Nat) (v : Value) (us : List Value) (L : Nat → Nat) (w : World) (q i : Value) (wr : World) : Prop :=
  ∃ j Q : Nat, j ≤ n ∧ i = .int .i64 (j : Int) ∧ q = .int .i64 (Q : Int) ∧ Q ≤ k + 2 * totL L n ∧ Hid (Q = k + 2 * totL L j) ∧ Hid (wr.ownsRow B 28 1 v n us) ∧ Hid (AnyRows wr B n us L) ∧ Hid (Below B w wr) ∧ Hid (Above C w wr)
set_option maxHeartbeats 1000000 in
set_option maxRecDepth 100000 in
theorem markFF_any (A : Option Addr) (c B C k n : Nat) (L : Nat → Nat) (fs : Nat → List Int) (us : List Value) (w : World) (hx : OwnFF w B (.slice A n c) n L fs us) (hB : B ≤ w.heap.size) (hC : ∀ i, i < n → ∀ g, (us.getD i undef).ownBlock = some g → g < C) (hm : k + 2 * totL L n ≤ 1099511627776) (hm' : n ≤ 1099511627776) :
    Calls Tryz.prog 54 #[.slice A n c, .int .i64 k] w fun e w' => e = .returned (.int .i64 ((k + 2 * totL L n : Nat) : Int)) ∧ Below B w w' ∧ Above C w w' := by
  have H0 : Hid (MarkRelFF B C n k (.slice A n c) us L w (.int .i64 (k : Int)) (.int .i64 0) w) := Lib.hid ⟨0, k, Nat.zero_le _, rfl, rfl, by omega, Lib.hid (by simp [totL]), Lib.hid hx.outer, Lib.hid (fun i hi => ⟨_, hx.rows.inner i hi⟩), Lib.hid (Below.refl _ _), Lib.hid (Above.refl _ _)⟩
  have HC := Lib.hid hC
  have HL := Lib.hid (And.intro hx.rows.len hx.rows.apart)
  clear hx hC
  go_enter Tryz.func54, Tryz.ntmps54
  go_wp2
  go_loopw [1, 5] (fun q i wr => MarkRelFF B C n k (.slice A n c) us L w q i wr) (fun _ i _ => n - (intOf i).toNat)
  case atStart => exact H0.out
  case round =>
    obtain ⟨j, Q, hj, rfl, rfl, hQ, HQ, HO, HR, HB, HA⟩ := hrel
    clear H0
    by_cases hlt : j < n
    · obtain ⟨ys, hin⟩ := HR.out j hlt
      obtain ⟨A1, c1, e1, _⟩ := hin.form
      obtain ⟨A', c', e, hf⟩ := ownsRow_form HO.out
      injection e with q1 q2 q3
      subst q1 q3
      obtain ⟨g, rfl, _, _⟩ := hf (by omega)
      have hcell : wr.cell? ⟨g, j, none⟩ = some (.slice A1 (L j) c1) := by
        rw [World.ownsRow.cellAt HO.out j (by omega), ← e1]
        have hl : j < us.length := by rw [HL.out.1]; omega
        simp [List.getD, hl]
      have htl := le_totL (L := L) hlt
      have hts : totL L (j + 1) ≤ totL L n := totL_le hlt
      have hQ1 : Q + 2 * L j ≤ k + 2 * totL L n := by have := HQ.out; rw [totL] at hts; omega
      have hin' := hin
      rw [e1] at hin'
      have HM := Lib.hid (markF_any A1 c1 B Q (L j) ys wr hin' (by omega))
      have HNX := Lib.hid (fun (w1 : World) (h1 : OwnF w1 B (.slice A1 (L j) c1) (L j) (marks Q (2 * L j))) (hg : wr.grownBy w1 (Value.slice A1 (L j) c1).ownBlock) => (show MarkRelFF B C n k (.slice (some ⟨g, 0, none⟩) n c) us L w (.int .i64 ((Q + 2 * L j : Nat) : Int)) (.int .i64 ((j : Int) + 1)) w1 from by
        rw [← e1] at hg h1
        refine ⟨j + 1, Q + 2 * L j, hlt, by simp, rfl, hQ1, Lib.hid (by rw [totL]; have := HQ.out; omega), Lib.hid ?_, Lib.hid (fun i hi => ?_), Lib.hid ?_, Lib.hid ?_⟩
        · exact HO.out.kept hg (own_ne HO.out hin (by decide))
        · by_cases ei : i = j
          · subst ei; exact ⟨_, h1⟩
          · obtain ⟨zs, hz⟩ := HR.out i hi
            refine ⟨zs, World.ownsRow.kept hz hg ?_⟩
            cases hv : (us.getD i undef).ownBlock with
            | none => exact .inl rfl
            | some b =>
              refine .inr fun eb => ?_
              rcases Nat.lt_or_ge i j with h | h
              · exact HL.out.2 i j b h hlt hv eb.symm
              · exact HL.out.2 j i b (by omega) hi eb.symm hv
        · exact HB.out.trans (grown_below hg (fun q hq => by obtain ⟨_, _, h3, _⟩ := ownsRow_block hin hq; exact h3) (Nat.le_trans hB HB.out.size))
        · exact HA.out.trans (Above.grown hg fun q hq => HC.out j hlt q hq) HB.out.size))
      clear hin hin' hf e1 HO HR HB HA hts htl
      generalize L j = l at *
      go_wp2_with fail
      refine HM.out.mono ?_
      rintro e w1 ⟨rfl, h1, h2⟩
      have HN := Lib.hid (HNX.out w1 h1 h2)
      clear h1 h2 HNX HM
      go_wp2
      go_roundw
      case rel => exact HN.out
      case measure => simp [intOf]; omega
    · obtain rfl : j = n := by omega
      have HE := HQ
      clear HQ HO HR
      go_wp2
      go_ret
      exact ⟨ret_int (by rw [HE.out]), HB.out, HA.out⟩
end Go.Proofs.YtionognmgcabbaaGreat.CpyW
/- The laws' sizes, copies, comparison and marks of walks. -/
namespace Go.Proofs.YtionognmgcabbaaGreat.CpyW
open Go.RowKit Go.Proofs.YtionognmgcabbaaGreat Go.Proofs.YtionognmgcabbaaGreat.Base Go.Proofs.YtionognmgcabbaaGreat.Mem Go.Proofs.YtionognmgcabbaaGreat.Cpy Go.Proofs.YtionognmgcabbaaGreat.MemF Go.Proofs.YtionognmgcabbaaGreat.WalkM Go.Proofs.YtionognmgcabbaaGreat.CpyF Go.Proofs.YtionognmgcabbaaGreat.Blk
set_option linter.unusedVariables false
def SzW (k : Int) (n : Nat) (L : Nat → Nat) (w : World) (e : Ending) (w' : World) : Prop := ∃ r : Int, e = .returned (.int .i64 r) ∧ (r = -1 ∨ (0 ≤ r ∧ r = k - n - totL L n)) ∧ Below w.heap.size w w'
set_option maxHeartbeats 1000000 in
theorem szW_any (A : Option Addr) (c B n : Nat) (k : Int) (L : Nat → Nat) (fs : Nat → List Int) (w : World) (hx : RdFF w B A n L fs) (hB : B ≤ w.heap.size) (hn : n ≤ 9223372036854775807) (hL : ∀ i, i < n → L i ≤ 9223372036854775807) (hk : 0 ≤ k) (hk2 : k ≤ 1048576) :
    Calls Tryz.prog 11 #[.agg #[.slice A n c], .int .i64 k] w (SzW k n L w) := by
  have hb0 : Below w.heap.size w (w.alloc (.cells #[.slice A n c] 24)) := (Below.refl _ _).alloc (Nat.le_refl _) _
  have HS := Lib.hid (szFF_any A c B n k L fs (w.alloc (.cells #[.slice A n c] 24)) (hx.below hb0 hB) hn hL hk hk2)
  have HB := Lib.hid hb0
  clear hx hL hb0
  go_enter Tryz.func11, Tryz.ntmps11
  go_wp2_with fail
  refine HS.out.mono ?_
  rintro e w1 ⟨r, rfl, hr, rfl⟩
  rcases hr with rfl | ⟨r0, hr⟩
  · go_wp2
    go_ret
    exact ⟨-1, rfl, .inl rfl, HB.out⟩
  · have HR := Lib.hid hr
    clear hr
    go_wp2
    go_ret
    exact ⟨r, rfl, .inr ⟨r0, HR.out⟩, HB.out⟩
/-- a walk that is copied -/
def ToW (n : Nat) (L : Nat → Nat) (fs : Nat → List Int) (w : World) (e : Ending) (w' : World) : Prop := ∃ g us, e = .returned (.agg #[.slice (some ⟨g, 0, none⟩) n n]) ∧ OwnFF w' w.heap.size (.slice (some ⟨g, 0, none⟩) n n) n L fs us ∧ Below w.heap.size w w'
theorem OwnFF.base {w : World} {B B' n : Nat} {v : Value} {L : Nat → Nat} {fs : Nat → List Int} {us : List Value} (h : OwnFF w B v n L fs us) (hB : B' ≤ B) : OwnFF w B' v n L fs us :=
  ⟨ownsRow_base h.outer hB, h.rows.len, fun i hi => ownsRow_base (h.rows.inner i hi) hB, h.rows.apart⟩
theorem above_set {C b o : Nat} {w : World} (hb : b < C) (v : Value) : Above C w (w.setCell ⟨b, o, none⟩ v) := Above.grown (Src.grown_setCell w ⟨b, o, none⟩ v) (fun g e => by have := Option.some.inj e; show g < C; rw [← this]; exact hb)
set_option maxHeartbeats 1000000 in
theorem toW_any (A : Option Addr) (c B0 n : Nat) (L : Nat → Nat) (fs : Nat → List Int) (w : World) (hx : RdFF w B0 A n L fs) (hB : B0 ≤ w.heap.size) (hn : n ≤ 1048576) (hL : ∀ i, i < n → L i ≤ 1048576) (hl : ∀ i, i < n → (fs i).length = 2 * L i) :
    Calls Tryz.prog 14 #[.agg #[.slice A n c]] w (ToW n L fs w) := by
  obtain ⟨W3, hW3⟩ : ∃ W3, W3 = ((w.alloc (.cells #[.slice A n c] 24)).alloc (.cells #[.slice none 0 0] 33)).alloc (.cells #[.slice none 0 0] 33) := ⟨_, rfl⟩
  have hb3 : Below w.heap.size w W3 := by rw [hW3]; exact (((Below.refl _ _).alloc (Nat.le_refl _) _).alloc (by simp) _).alloc (by simp; omega) _
  have hz3 : W3.heap.size = w.heap.size + 3 := by rw [hW3]; simp
  have K1 : Hid (Blk W3 (w.heap.size + 1) 33 #[.slice none 0 0]) := Lib.hid (by rw [hW3]; exact (Blk.newAt _ _ (by simp)).alloc _)
  have K2 : Hid (Blk W3 (w.heap.size + 2) 33 #[.slice none 0 0]) := Lib.hid (by rw [hW3]; exact Blk.newAt _ _ (by simp))
  have HC := Lib.hid (toFF_any A c B0 n L fs W3 (hx.below hb3 hB) (Nat.le_trans hB hb3.size) hn hL hl)
  have HB3 := Lib.hid hb3
  have HW3 := Lib.hid hW3
  have HZ3 := Lib.hid hz3
  clear hx hL hl hb3 hW3 hz3
  go_enter Tryz.func14, Tryz.ntmps14
  go_wp2_with fail
  rw [← HW3.out]
  refine HC.out.mono ?_
  rintro e w4 ⟨g, us, rfl, ho, hb4⟩
  have k1 := K1.out.belowS hb4
  have k2 := K2.out.belowS hb4
  have hz := HZ3.out
  have hz4 := hb4.size
  have HF : Hid (ToW n L fs w (.returned (.agg #[.slice (some ⟨g, 0, none⟩) n n])) ((w4.setCell ⟨w.heap.size + 2, 0, none⟩ (.slice (some ⟨g, 0, none⟩) n n)).setCell ⟨w.heap.size + 1, 0, none⟩ (.slice (some ⟨g, 0, none⟩) n n))) := Lib.hid
    ⟨g, us, rfl, OwnFF.base ((ho.above (above_set (by omega) _)).above (above_set (by omega) _)) (by omega), ((Base.Below.nextA HB3.out hb4).setCell (p := ⟨w.heap.size + 2, 0, none⟩) (by show w.heap.size ≤ w.heap.size + 2; omega) _).setCell (p := ⟨w.heap.size + 1, 0, none⟩) (by show w.heap.size ≤ w.heap.size + 1; omega) _⟩
  have c1 := k1.at 0 (v := .slice none 0 0) rfl
  have c2 := k2.at 0 (v := .slice none 0 0) rfl
  have z1 := k1.frz 0
  have z2 := k2.frz 0
  have s1 := ((k1.other (a := ⟨w.heap.size + 2, 0, none⟩) (.slice (some ⟨g, 0, none⟩) n n) (by show w.heap.size + 2 ≠ w.heap.size + 1; omega)).setTo 0 (.slice (some ⟨g, 0, none⟩) n n) rfl).at 0 (v := .slice (some ⟨g, 0, none⟩) n n) rfl
  clear ho hb4 k1 k2 hz hz4 HC HB3 HW3 HZ3 K1 K2
  go_wp2
  refine bodyPost_ret (v := .agg #[.slice (some ⟨g, 0, none⟩) n n]) (by simp [results, Tryz.results14, go_sem, s1]) rfl ?_
  exact HF.out
set_option maxHeartbeats 1000000 in
theorem eqW_yes (A A' : Option Addr) (c c' B B' n : Nat) (L : Nat → Nat) (fs : Nat → List Int) (w : World) (hx : RdFF w B A n L fs) (hy : RdFF w B' A' n L fs) (hB : B ≤ w.heap.size) (hB' : B' ≤ w.heap.size) (hm : n ≤ 1099511627776) (hL : ∀ i, i < n → L i ≤ 1099511627776) :
    Calls Tryz.prog 18 #[.agg #[.slice A n c], .agg #[.slice A' n c']] w fun e w' => e = .returned (.bool true) ∧ Below w.heap.size w w' := by
  obtain ⟨W2, hW2⟩ : ∃ W2, W2 = (w.alloc (.cells #[.slice A n c] 33)).alloc (.cells #[.slice A' n c'] 33) := ⟨_, rfl⟩
  have hb2 : Below w.heap.size w W2 := by rw [hW2]; exact ((Below.refl _ _).alloc (Nat.le_refl _) _).alloc (by simp) _
  have HC := Lib.hid (eqFF_yes A A' c c' B B' n L fs W2 (hx.below hb2 hB) (hy.below hb2 hB') (Nat.le_trans hB hb2.size) (Nat.le_trans hB' hb2.size) hm hL)
  have HB := Lib.hid hb2
  have HW := Lib.hid hW2
  clear hx hy hL hb2 hW2
  go_enter Tryz.func18, Tryz.ntmps18
  go_wp2_with fail
  rw [← HW.out]
  refine HC.out.mono ?_
  rintro e w1 ⟨rfl, hb1⟩
  have HB1 := Lib.hid (Base.Below.nextA HB.out hb1)
  clear hb1
  go_wp2
  go_ret
  exact ⟨rfl, HB1.out⟩
set_option maxHeartbeats 1000000 in
theorem markW_any (A : Option Addr) (c B C k n : Nat) (L : Nat → Nat) (fs : Nat → List Int) (us : List Value) (w : World) (hx : OwnFF w B (.slice A n c) n L fs us) (hB : B ≤ w.heap.size) (hC : ∀ i, i < n → ∀ g, (us.getD i undef).ownBlock = some g → g < C) (hm : k + 2 * totL L n ≤ 1099511627776) (hm' : n ≤ 1099511627776) :
    Calls Tryz.prog 19 #[.agg #[.slice A n c], .int .i64 (k : Int)] w fun e w' => e = .returned (.int .i64 ((k + 2 * totL L n : Nat) : Int)) ∧ Below B w w' ∧ Above C w w' := by
  have hb0 : Below w.heap.size w (w.alloc (.cells #[.slice A n c] 33)) := (Below.refl _ _).alloc (Nat.le_refl _) _
  have HC := Lib.hid (markFF_any A c B C k n L fs us (w.alloc (.cells #[.slice A n c] 33)) (hx.below hb0) (Nat.le_trans hB hb0.size) hC hm hm')
  have HB := Lib.hid hb0
  clear hx hC hb0
  go_enter Tryz.func19, Tryz.ntmps19
  go_wp2_with fail
  refine HC.out.mono ?_
  rintro e w1 ⟨rfl, hb1, ha1⟩
  have HF := Lib.hid (And.intro ((HB.out.mono hB).trans hb1) ((Above.below (C := C) HB.out).trans ha1 HB.out.size))
  clear hb1 ha1
  go_wp2
  go_ret
  exact ⟨rfl, HF.out.1, HF.out.2⟩
end Go.Proofs.YtionognmgcabbaaGreat.CpyW
/- Openers for lists of fractions, and for walks. -/
namespace Go.Proofs.YtionognmgcabbaaGreat.Open
open Go.ChangeShapes Go.WideShapes Go.ChangeAt Go.RowKit Go.Joins Go.Proofs.YtionognmgcabbaaGreat
set_option linter.unusedVariables false
set_option maxRecDepth 100000
section
variable {H : Type} {enc : TypeId × Value → H} {w : World} {base b0 : Nat} {spare : Nat → Bool} {held : Bool} {v : Value} {d : DataW H} {p : List MemPlace}
theorem cellsFi : Tryz.prog.cellsOf 2 = 1 := by kernel_rfl
theorem cellsFr : Tryz.prog.cellsOf 59 = 2 := by kernel_rfl
theorem frac_cells {n : Nat} {cs : List Value} {x : DataW H × List MemPlace} (h : DataW.trod enc Tryz.prog w base spare held n 59 cs = some x) : ∃ a b : Int, cs = [.int .i64 a, .int .i64 b] := by
  obtain ⟨xs, n', _, _, hl, hlen, hg⟩ := DataW.trod_struct Tryz.underlying59 h
  obtain ⟨a, e0⟩ := field_int hlen hg 0 _ rfl rfl
  obtain ⟨b, e1⟩ := field_int hlen hg 1 _ rfl rfl
  rw [cellsFr] at hl
  match cs, hl with
  | [c0, c1], _ =>
    simp [cellsFi] at e0 e1
    exact ⟨a, b, by rw [e0, e1]⟩
/-- a list of fractions -/
structure IsFracs (w : World) (v : Value) : Prop where
  ex : ∃ (A : Option Addr) (n c : Nat) (fs : List Int), v = .slice A n c ∧ n ≤ 9223372036854775807 ∧ fs.length = 2 * n ∧ MemF.RdF w w.heap.size A n fs
theorem fracs_of {fuel : Nat} {c0 : Value} {y : DataW H × List MemPlace} (hf : DataW.trod enc Tryz.prog w base (fun _ => true) held fuel 25 [c0] = some y) : IsFracs w c0 := by
  rcases Go.Deep.open_slice Tryz.underlying25 hf with ⟨hcs, _⟩ | ⟨x, len, cap, m, n, D, Pl, hcs, _, hl, hm, hmm, _, hx⟩
  · simp at hcs
    subst hcs
    exact ⟨none, 0, 0, [], rfl, by decide, rfl, fun h => absurd h (by simp)⟩
  · simp at hcs
    subst hcs
    simp only [if_true] at hmm
    unfold maxLen at hm
    have hs2 : 0 < m → x.spot = none := fun h0 => by
      obtain ⟨cs', h1, h2⟩ := hx 0 h0
      rw [cellsFr] at h1
      obtain ⟨a, b, rfl⟩ := frac_cells h2
      have h3 := (World.cells?_some h1).2.2 0 (by decide)
      have e : (x.add (0 * 2)).add 0 = x := by simp [Addr.add]
      rw [e] at h3
      exact World.cell?_spot h3
    have each : ∀ i, i < m → ∃ l : List Int, l.length = 2 ∧ ∀ j, j < 2 → w.cell? (x.add (i * 2 + j)) = some (.int .i64 (l.getD j 0)) := fun i hi => by
      obtain ⟨cs', h1, h2⟩ := hx i hi
      rw [cellsFr] at h1
      obtain ⟨a, b, rfl⟩ := frac_cells h2
      obtain ⟨_, _, h3⟩ := World.cells?_some h1
      refine ⟨[a, b], rfl, fun j hj => ?_⟩
      have hs2 := hs2 (by omega)
      have h4 := h3 j hj
      rw [addr_add hs2] at h4
      rw [addr_add (a := ⟨x.block, x.off + i * 2, none⟩) rfl] at h4
      rw [addr_add hs2, ← Nat.add_assoc, h4]
      match j, hj with
      | 0, _ => rfl
      | 1, _ => rfl
      | j + 2, hj => exact absurd hj (by omega)
    obtain ⟨L, hL⟩ := Go.Deep.choose_lt each
    have hlen : ((List.range (2 * len)).map fun k => (L (k / 2)).getD (k % 2) 0).length = 2 * len := by simp
    refine ⟨some x, len, cap, (List.range (2 * len)).map fun k => (L (k / 2)).getD (k % 2) 0, rfl, by omega, hlen, fun h0 => ?_⟩
    have h00 := (hL 0 (by omega)).2 0 (by decide)
    rw [Nat.zero_mul, Nat.zero_add] at h00
    obtain ⟨hs, hb⟩ := spot_of h00
    refine ⟨x.block, x.off, by cases x; simp_all, hb, fun i hi => ?_⟩
    have h5 := (hL (i / 2) (by omega)).2 (i % 2) (Nat.mod_lt _ (by decide))
    rw [Nat.mul_comm, Nat.div_add_mod] at h5
    rw [← addr_add hs, h5]
    simp [List.getD, hi]
end
end Go.Proofs.YtionognmgcabbaaGreat.Open
/- Openers for walks and for a fraction by value. -/
namespace Go.Proofs.YtionognmgcabbaaGreat.Open
open Go.ChangeShapes Go.WideShapes Go.ChangeAt Go.RowKit Go.Joins Go.Proofs.YtionognmgcabbaaGreat
set_option linter.unusedVariables false
set_option maxRecDepth 100000
section
variable {H : Type} {enc : TypeId × Value → H} {w : World} {base b0 : Nat} {spare : Nat → Bool} {held : Bool} {v : Value} {d : DataW H} {p : List MemPlace}
theorem cellsFS : Tryz.prog.cellsOf 25 = 1 := by kernel_rfl
/-- lists of fractions -/
structure IsFracss (w : World) (v : Value) : Prop where
  ex : ∃ (A : Option Addr) (n c : Nat) (L : Nat → Nat) (fs : Nat → List Int), v = .slice A n c ∧ n ≤ 9223372036854775807 ∧ (∀ i, i < n → L i ≤ 9223372036854775807 ∧ (fs i).length = 2 * L i) ∧ WalkM.RdFF w w.heap.size A n L fs
theorem fracss_of {fuel : Nat} {c0 : Value} {y : DataW H × List MemPlace} (hf : DataW.trod enc Tryz.prog w base (fun _ => true) held fuel 22 [c0] = some y) : IsFracss w c0 := by
  rcases Go.Deep.open_slice Tryz.underlying22 hf with ⟨hcs, _⟩ | ⟨x, len, cap, m, n, D, Pl, hcs, _, hl, hm, hmm, _, hx⟩
  · simp at hcs
    subst hcs
    exact ⟨none, 0, 0, fun _ => 0, fun _ => [], rfl, by decide, fun i hi => absurd hi (Nat.not_lt_zero i), fun h => absurd h (by simp)⟩
  · simp at hcs
    subst hcs
    simp only [if_true] at hmm
    unfold maxLen at hm
    have each : ∀ i, i < m → ∃ u : Option Addr × Nat × Nat × List Int, w.cell? (x.add i) = some (.slice u.1 u.2.1 u.2.2.1) ∧ u.2.1 ≤ 9223372036854775807 ∧ u.2.2.2.length = 2 * u.2.1 ∧ MemF.RdF w w.heap.size u.1 u.2.1 u.2.2.2 := fun i hi => by
      obtain ⟨cs', h1, h2⟩ := hx i hi
      rw [cellsFS] at h1
      obtain ⟨hlen, _, h3⟩ := World.cells?_some h1
      match cs', hlen with
      | [c1], _ =>
        obtain ⟨A, n', c', fs, rfl, h4, h5, h6⟩ := (fracs_of h2).ex
        have h7 := h3 0 (by decide)
        rw [Nat.mul_one] at h7
        have e : (x.add i).add 0 = x.add i := by
          unfold Addr.add
          split <;> simp_all
        rw [e] at h7
        exact ⟨(A, n', c', fs), h7, h4, h5, h6⟩
    obtain ⟨U, hU⟩ := Go.Deep.choose_lt each
    refine ⟨some x, len, cap, fun i => (U i).2.1, fun i => (U i).2.2.2, rfl, by omega, fun i hi => ⟨(hU i (by omega)).2.1, (hU i (by omega)).2.2.1⟩, fun h0 => ?_⟩
    obtain ⟨hs, hb⟩ := spot_of (hU 0 (by omega)).1
    refine ⟨x.block, x.off, by cases x; simp_all, hb, fun i hi => ?_⟩
    obtain ⟨k1, _, _, k4⟩ := hU i (by omega)
    exact ⟨(U i).1, (U i).2.2.1, by rw [← addr_add hs]; exact k1, k4⟩
theorem cellsWalk : Tryz.prog.cellsOf 24 = 1 := by kernel_rfl
/-- a walk by value -/
structure IsWalk (w : World) (v : Value) : Prop where
  ex : ∃ (A : Option Addr) (n c : Nat) (L : Nat → Nat) (fs : Nat → List Int), v = .agg #[.slice A n c] ∧ n ≤ 9223372036854775807 ∧ (∀ i, i < n → L i ≤ 9223372036854775807 ∧ (fs i).length = 2 * L i) ∧ WalkM.RdFF w w.heap.size A n L fs
theorem walk (hv : Value.okWide Tryz.prog w .any b0 24 v) (h : DataW.Trod enc Tryz.prog w base (fun _ => true) held 24 v d p) : IsWalk w v := by
  obtain ⟨⟨cs⟩, rfl, hsz⟩ := okWide_struct Tryz.underlying24 hv
  obtain ⟨fuel, hf⟩ := h
  have hf' : DataW.trod enc Tryz.prog w base (fun _ => true) held fuel 24 cs = some (d, p) := by simpa [Value.cells] using hf
  obtain ⟨xs, n', _, _, hl, hlen, hg⟩ := DataW.trod_struct Tryz.underlying24 hf'
  have h1 := hg 0 _ rfl
  have l1 : 0 < xs.length := by rw [hlen]; decide
  rw [List.getElem?_eq_getElem l1] at h1
  rw [cellsWalk] at hl
  match cs, hl with
  | [c0], _ =>
    have h2 : DataW.trod enc Tryz.prog w base (fun _ => true) held n' 22 [c0] = some xs[0] := h1
    obtain ⟨A, n, c, L, fs, rfl, k⟩ := (fracss_of h2).ex
    exact ⟨A, n, c, L, fs, rfl, k⟩
end
end Go.Proofs.YtionognmgcabbaaGreat.Open

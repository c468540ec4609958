/- A stream read from its text: the reference. -/
import Derived.Test.YtogadldnkhdjbaaDoorMrgA
import Derived.Test.YtogadldnkhdjbaaDoorTake
import Derived.Deep.Cut
namespace Go.Proofs.YtogadldnkhdjbaaDoor.Rd
open Go.RowKit Go.Proofs.YtogadldnkhdjbaaDoor Go.Proofs.YtogadldnkhdjbaaDoor.Base Go.Proofs.YtogadldnkhdjbaaDoor.Mem Go.Proofs.YtogadldnkhdjbaaDoor.Dec Go.Proofs.YtogadldnkhdjbaaDoor.LabM Go.Proofs.YtogadldnkhdjbaaDoor.RecJ Go.Proofs.YtogadldnkhdjbaaDoor.CutP Go.Proofs.YtogadldnkhdjbaaDoor.Val Go.Proofs.YtogadldnkhdjbaaDoor.Str Go.Proofs.YtogadldnkhdjbaaDoor.Take
set_option linter.unusedVariables false
theorem below7 {B b : Nat} {w0 w : World} (h : Below B w0 w) (hB : B ≤ b) (hs : B ≤ w.heap.size) (K W T m f a s : Int) : Below B w0 (set7 w b K W T m f a s) :=
  h.trans (grown_below (grown_set7 w b K W T m f a s) (fun g e => by cases e; exact hB) hs)
theorem ownNotStr {w : World} {B b n : Nat} {v : Value} {xs : List Value} {K W T m f a s : Int} (h : w.ownsRow B 2 1 v n xs) (hb : SBox w b K W T m f a s) : v.ownBlock ≠ some b := fun he => by
  obtain ⟨cur, h1, _⟩ := ownsRow_block h he
  unfold SBox at hb
  rw [hb] at h1
  injection h1 with h1
  injection h1 with _ h2
  cases h2
/-! ### Plain -/
noncomputable def nsOf (ws : List (List UInt8)) : List Int := ws.map fun e => (valO e).getD 0
def okW (ws : List (List UInt8)) : Prop := ∀ e ∈ ws, ∃ v, valO e = some v
theorem nsOf_len (ws : List (List UInt8)) : (nsOf ws).length = ws.length := by simp [nsOf]
theorem nsOf_snoc (ws : List (List UInt8)) (e : List UInt8) {v : Int} (h : valO e = some v) : nsOf (ws ++ [e]) = nsOf ws ++ [v] := by simp [nsOf, h]
abbrev S7 := Int × Int × Int × Int × Int × Int × Int
def stO (w0 : List UInt8) (ns : List Int) : Option S7 :=
  if w0 = [114] ∧ ns.length = 3 then some (0, ns.getD 0 0, ns.getD 1 0, 0, 0, 0, ns.getD 2 0)
  else if w0 = [99] ∧ ns.length = 4 then some (1, 0, 0, ns.getD 0 0, ns.getD 1 0, ns.getD 2 0, ns.getD 3 0) else none
def validS (t : S7) : Bool := streamB t.1 t.2.1 t.2.2.1 t.2.2.2.1 t.2.2.2.2.1 t.2.2.2.2.2.1 t.2.2.2.2.2.2
open Classical in
/-- the valid stream with a text -/
noncomputable def rdO (l : List UInt8) : Option S7 :=
  if okW ((cutR 58 l).drop 1) then (match stO ((cutR 58 l).getD 0 []) (nsOf ((cutR 58 l).drop 1)) with
    | some t => if validS t = true then some t else none
    | none => none) else none
theorem rdO_bad {l : List UInt8} (h : ¬ okW ((cutR 58 l).drop 1)) : rdO l = none := by unfold rdO; rw [if_neg h]
theorem rdO_none {l : List UInt8} (h : okW ((cutR 58 l).drop 1)) (h2 : stO ((cutR 58 l).getD 0 []) (nsOf ((cutR 58 l).drop 1)) = none) : rdO l = none := by unfold rdO; rw [if_pos h, h2]
theorem rdO_some {l : List UInt8} {t : S7} (h : okW ((cutR 58 l).drop 1)) (h2 : stO ((cutR 58 l).getD 0 []) (nsOf ((cutR 58 l).drop 1)) = some t) : rdO l = if validS t = true then some t else none := by unfold rdO; rw [if_pos h, h2]
def RdRet (R : Option S7) (w : World) (e : Ending) (w' : World) : Prop :=
  (∀ K W T m f a s, R = some (K, W, T, m, f, a, s) → streamB K W T m f a s = true ∧ e = .returned (.tuple #[.agg #[.int .i64 K, .int .i64 W, .int .i64 T, .int .i64 m, .int .i64 f, .int .i64 a, .int .i64 s], .bool true])) ∧ (R = none → e = .returned (.tuple #[.agg #[.int .i64 0, .int .i64 0, .int .i64 0, .int .i64 0, .int .i64 0, .int .i64 0, .int .i64 0], .bool false])) ∧ Below w.heap.size w w'
theorem RdRet.no {R : Option S7} {w w' : World} {e : Ending} (h : R = none) (he : e = .returned (.tuple #[.agg #[.int .i64 0, .int .i64 0, .int .i64 0, .int .i64 0, .int .i64 0, .int .i64 0, .int .i64 0], .bool false])) (hb : Below w.heap.size w w') : RdRet R w e w' :=
  ⟨fun _ _ _ _ _ _ _ h1 => (by rw [h] at h1; cases h1), fun _ => he, hb⟩
theorem RdRet.yes {R : Option S7} {K W T m f a s : Int} {w w' : World} {e : Ending} (h : R = some (K, W, T, m, f, a, s)) (hv : streamB K W T m f a s = true) (he : e = .returned (.tuple #[.agg #[.int .i64 K, .int .i64 W, .int .i64 T, .int .i64 m, .int .i64 f, .int .i64 a, .int .i64 s], .bool true])) (hb : Below w.heap.size w w') : RdRet R w e w' :=
  ⟨fun _ _ _ _ _ _ _ h1 => (by rw [h] at h1; injection h1 with h1; injection h1 with e1 h1; injection h1 with e2 h1; injection h1 with e3 h1; injection h1 with e4 h1; injection h1 with e5 h1; injection h1 with e6 e7; subst e1 e2 e3 e4 e5 e6 e7; exact ⟨hv, he⟩), fun h1 => (by rw [h] at h1; cases h1), hb⟩
theorem cell_set7 {w : World} {b q i : Nat} {v : Value} (h : w.cell? ⟨b, i, none⟩ = some v) (hne : q ≠ b) (K W T m f a s : Int) : (set7 w q K W T m f a s).cell? ⟨b, i, none⟩ = some v := by
  have hn : ∀ j, (⟨q, j, none⟩ : Addr) ≠ ⟨b, i, none⟩ := fun j e => hne (congrArg Addr.block e)
  unfold Take.set7
  rw [World.cell?_setCell_other _ _ _ _ (hn 6), World.cell?_setCell_other _ _ _ _ (hn 5), World.cell?_setCell_other _ _ _ _ (hn 4), World.cell?_setCell_other _ _ _ _ (hn 3), World.cell?_setCell_other _ _ _ _ (hn 2), World.cell?_setCell_other _ _ _ _ (hn 1), World.cell?_setCell_other _ _ _ _ (hn 0)]
  exact h
/-- numbers that are read -/
def RlTo (ws : List (List UInt8)) (B bz : Nat) (w : World) (v : Value) (k : Nat) (wr : World) : Prop :=
  1 ≤ k ∧ k ≤ ws.length ∧ B ≤ wr.heap.size ∧ Hid (okW ((ws.drop 1).take (k - 1))) ∧ Hid (OwnI wr B v (nsOf ((ws.drop 1).take (k - 1)))) ∧ Hid (SBox wr bz 0 0 0 0 0 0 0) ∧ Hid (Below w.heap.size w wr)
theorem RlTo.next {ws : List (List UInt8)} {B bz k : Nat} {w wr w2 w3 : World} {v v' : Value} {n : Int} {o : Obj} (h : RlTo ws B bz w v k wr) (hk : k < ws.length) (hwB : w.heap.size ≤ B) (hv : valO (ws.getD k []) = some n) (hb : Below wr.heap.size wr w2)
    (h1 : w3.ownsRow B 2 1 v' ((nsOf ((ws.drop 1).take (k - 1))).length + 1) (ints (nsOf ((ws.drop 1).take (k - 1))) ++ [.int .i64 n])) (h2 : (w2.alloc o).grownBy w3 v.ownBlock) : RlTo ws B bz w v' (k + 1) w3 := by
  obtain ⟨a1, a2, a3, a4, a5, a6, a7⟩ := h
  have hO2 := (a5.out.below hb).below ((Below.refl w2.heap.size w2).alloc (Nat.le_refl _) o)
  have hS2 := (a6.out.below hb a6.out.lt).below ((Below.refl w2.heap.size w2).alloc (Nat.le_refl _) o) (Nat.lt_of_lt_of_le a6.out.lt hb.size)
  have e : (ws.drop 1).take k = (ws.drop 1).take (k - 1) ++ [ws.getD k []] := by
    have hl : k - 1 < (ws.drop 1).length := by rw [List.length_drop]; omega
    have := List.take_add_one (l := ws.drop 1) (i := k - 1)
    rw [show k - 1 + 1 = k by omega] at this
    rw [this, List.getElem?_drop, show 1 + (k - 1) = k by omega, List.getElem?_eq_getElem hk, List.getD_eq_getElem?_getD, List.getElem?_eq_getElem hk]; rfl
  refine ⟨by omega, hk, Nat.le_trans (Nat.le_trans a3 hb.size) (Nat.le_trans (by simp) h2.size), Lib.hid ?_, Lib.hid ?_, Lib.hid (hS2.kept h2 (ownNotStr hO2 hS2)), Lib.hid ?_⟩
  · rw [Nat.add_sub_cancel, e]
    intro x hx
    rcases List.mem_append.1 hx with hx | hx
    · exact a4.out x hx
    · obtain rfl := List.mem_singleton.1 hx
      exact ⟨n, hv⟩
  · rw [Nat.add_sub_cancel, e, nsOf_snoc _ _ hv]
    unfold OwnI
    rw [List.length_append]
    have : ints (nsOf ((ws.drop 1).take (k - 1)) ++ [n]) = ints (nsOf ((ws.drop 1).take (k - 1))) ++ [.int .i64 n] := by simp [ints]
    rw [this]; exact h1
  · have hb2 : Below wr.heap.size wr (w2.alloc o) := hb.alloc hb.size o
    refine (a7.out.trans (hb2.mono a7.out.size)).trans (grown_below h2 (fun g e => ?_) (Nat.le_trans a7.out.size hb2.size))
    obtain ⟨_, _, q, _⟩ := ownsRow_block hO2 e
    exact Nat.le_trans hwB q
set_option maxHeartbeats 4000000 in
set_option maxRecDepth 100000 in
theorem l11Read_any (t : ByteArray) (hs : t.size ≤ 1048576) (w : World) : Calls Tryd.prog 33 #[.string t] w (RdRet (rdO t.data.toList) w) := by
  obtain ⟨i0, hi, hz0, hz1, hz2⟩ := info_parts infoI
  obtain ⟨W1, hW1⟩ : ∃ W1, W1 = w.alloc (.cells #[.int .i64 0, .int .i64 0, .int .i64 0, .int .i64 0, .int .i64 0, .int .i64 0, .int .i64 0] 40) := ⟨_, rfl⟩
  have hZ : W1.heap.size = w.heap.size + 1 := by rw [hW1]; simp
  have R1 : SBox W1 w.heap.size 0 0 0 0 0 0 0 := by rw [hW1]; exact SBox.new _ _ _ _ _ _ _ _
  have B1 : Below w.heap.size w W1 := by rw [hW1]; exact (Below.refl _ _).alloc (Nat.le_refl _) _
  have hsz : t.data.toList.length = t.size := by rw [Array.length_toList]; rfl
  have HC := Lib.hid (l11Cut_any t 58 hs W1)
  have hcl := cutR_len 58 _ t.data.toList (Nat.le_refl _)
  have HRes : Hid (rdO t.data.toList = rdO t.data.toList) := Lib.hid rfl
  obtain ⟨RR, hRR⟩ : ∃ RR, rdO t.data.toList = RR := ⟨_, rfl⟩
  have HB := Lib.hid (fun h => hRR.symm.trans (rdO_bad (l := t.data.toList) h))
  have HNn := Lib.hid (fun h h2 => hRR.symm.trans (rdO_none (l := t.data.toList) h h2))
  have HSm := Lib.hid (fun tt h h2 => hRR.symm.trans (rdO_some (l := t.data.toList) (t := tt) h h2))
  rw [hRR]
  obtain ⟨ws, hws⟩ : ∃ ws, cutR 58 t.data.toList = ws := ⟨_, rfl⟩
  unfold CutRet at HC
  rw [show (((58 : UInt8).toNat : Nat) : Int) = 58 from rfl] at HC
  rw [hws] at HC HB HNn HSm hcl
  obtain ⟨hn1, hn2, hw3⟩ := hcl
  rw [hsz] at hn2 hw3
  have HL : Hid (∀ k, k < ws.length → (tx (ws.getD k [])).size ≤ 1048576) := Lib.hid fun k hk => by
    rw [size_tx]
    have := hw3 (ws.getD k []) (by rw [List.getD_eq_getElem?_getD, List.getElem?_eq_getElem hk]; exact List.getElem_mem hk)
    omega
  have HW := Lib.hid hW1
  have HR1 := Lib.hid R1
  have HB1 := Lib.hid B1
  have HZ := Lib.hid hZ
  clear hW1 R1 B1 hRR hws hw3 hsz HRes
  go_enter Tryd.func33, Tryd.ntmps33
  go_wp2_with fail
  rw [← HW.out]
  refine HC.out.mono ?_
  rintro e w1 ⟨A, cp, rfl, hrd, hb1⟩
  have hs1 := hb1.size
  have HRd := Lib.hid hrd
  have BB := Lib.hid (HB1.out.trans (hb1.mono HB1.out.size))
  have HS1 := Lib.hid (HR1.out.below hb1 HR1.out.lt)
  have hwB : w.heap.size ≤ w1.heap.size := by have := HZ.out; omega
  have H0 : Hid (RlTo ws w1.heap.size w.heap.size w1 (.slice (some ⟨w1.heap.size, 0, none⟩) 0 0) 1 (w1.alloc (.cells #[] 2))) := Lib.hid (by
    have q2 : OwnI (w1.alloc (.cells #[] 2)) w1.heap.size (.slice (some ⟨w1.heap.size, 0, none⟩) 0 0) [] := own_lit (B := w1.heap.size) w1 (Nat.le_refl _) [] (by simp)
    have bx := (Below.refl w1.heap.size w1).alloc (Nat.le_refl _) (.cells #[] 2)
    exact ⟨Nat.le_refl _, hn1, by simp, Lib.hid (by intro x hx; simp at hx), Lib.hid (by simpa [nsOf] using q2), Lib.hid (HS1.out.below bx HS1.out.lt), Lib.hid bx⟩)
  have hnn : ws.length ≤ 1048577 := by omega
  clear hrd hb1 hn2
  go_wp2
  go_loopw [5, 6] (fun v iv wr => ∃ k : Nat, iv = .int .i64 (k : Int) ∧ RlTo ws w1.heap.size w.heap.size w1 v k wr) (fun _ iv _ => ws.length - (intOf iv).toNat)
  case atStart => exact ⟨1, rfl, H0.out⟩
  case round =>
    obtain ⟨k, rfl, hk1, hk2, hBw, HOk, HO, HSz, HBl⟩ := hrel
    clear H0
    by_cases hlt : k < ws.length
    · obtain ⟨b, off, rfl, hbB, hc⟩ := HRd.out (by rw [txs_len]; omega)
      have hbw : b < wr.heap.size := by omega
      have g0 := (HBl.out.cell (p := ⟨b, off + k, none⟩) hbB).trans (hc k (by rw [txs_len]; exact hlt))
      rw [txs_get ws k hlt] at g0
      have HRel : Hid (RlTo ws w1.heap.size w.heap.size w1 u5 k wr) := Lib.hid ⟨hk1, hk2, hBw, HOk, HO, HSz, HBl⟩
      have HVl := Lib.hid (fun w => value_any (tx (ws.getD k [])) (HL.out k hlt) w)
      simp only at HVl
      have HMem : Hid (ws.getD k [] ∈ ws.drop 1) := Lib.hid (by
        rw [List.getD_eq_getElem?_getD, List.getElem?_eq_getElem hlt]
        have : (ws.drop 1)[k - 1]? = some ws[k] := by rw [List.getElem?_drop, show 1 + (k - 1) = k by omega, List.getElem?_eq_getElem hlt]
        exact List.mem_of_getElem? this)
      obtain ⟨E, hE⟩ : ∃ E, ws.getD k [] = E := ⟨_, rfl⟩
      have HNx := Lib.hid (fun n w2 w3 v' o => RlTo.next (n := n) (w2 := w2) (w3 := w3) (v' := v') (o := o) HRel.out hlt (Nat.le_refl _))
      rw [hE] at g0 HVl HMem HNx
      clear hc hE
      obtain ⟨T, hT⟩ : ∃ T, tx E = T := ⟨_, rfl⟩
      rw [hT] at g0 HVl
      clear hT
      go_wp2_with fail
      refine (HVl.out _).mono ?_
      rintro e w2 ⟨v, bb, rfl, hv1, hv2, hb2⟩
      cases bb with
      | false =>
        obtain ⟨rfl, hno⟩ := hv2 rfl
        have HNo : Hid (RR = none) := Lib.hid (HB.out fun h => by
          obtain ⟨x, hx⟩ := h E HMem.out
          rw [valO_no hno] at hx
          cases hx)
        have RZ := HSz.out.below hb2 HSz.out.lt
        have BB2 := Lib.hid (BB.out.trans ((HBl.out.trans (hb2.mono hBw)).mono hwB))
        clear hv1 hv2 hno hb2
        have d0 := (RZ).c0; have d1 := (RZ).c1; have d2 := (RZ).c2; have d3 := (RZ).c3; have d4 := (RZ).c4; have d5 := (RZ).c5; have d6 := (RZ).c6
        have g0 := (RZ).frz 0; have g1 := (RZ).frz 1; have g2 := (RZ).frz 2; have g3 := (RZ).frz 3; have g4 := (RZ).frz 4; have g5 := (RZ).frz 5; have g6 := (RZ).frz 6
        have S8 := RZ.set7 0 0 0 0 0 0 0
        have p0 := (S8).c0; have p1 := (S8).c1; have p2 := (S8).c2; have p3 := (S8).c3; have p4 := (S8).c4; have p5 := (S8).c5; have p6 := (S8).c6
        simp only [set7] at p0 p1 p2 p3 p4 p5 p6
        have HBN := Lib.hid (below7 (b := w.heap.size) BB2.out (Nat.le_refl _) BB2.out.size 0 0 0 0 0 0 0)
        clear S8 RZ
        go_wp2
        exact bodyPost_ret (v := .tuple #[.agg #[.int .i64 0, .int .i64 0, .int .i64 0, .int .i64 0, .int .i64 0, .int .i64 0, .int .i64 0], .bool false]) (by simp [results, Tryd.results33, go_sem, p0, p1, p2, p3, p4, p5, p6]) rfl (RdRet.no HNo.out rfl HBN.out)
      | true =>
        have hvo := valO_yes (hv1 rfl)
        have HN2 := Lib.hid (fun w3 v' o => HNx.out v w2 w3 v' o hvo hb2)
        have hown := HO.out.below hb2
        have HOw := Lib.hid (ownsRow_below hown ((Below.refl w2.heap.size w2).alloc (Nat.le_refl _) (.cells #[.int .i64 v] 2)))
        have hs2 := hb2.size
        have hlen : (nsOf ((ws.drop 1).take (k - 1))).length ≤ 1048577 := by rw [nsOf_len, List.length_take, List.length_drop]; omega
        clear hv1 hv2 hvo hb2 hown
        generalize nsOf ((ws.drop 1).take (k - 1)) = xs at *
        go_wp2_with (at_builtin; refine wpList_append_own_at _ rfl (.tmp 30) (.tmp 32) 75 rfl w1.heap.size 2 i0 (.int .i64 0) 1 8 Tryd.underlying75 hi hz0 hz1 hz2 rfl (by decide) _ _ _ rfl HOw.out ⟨w2.heap.size, 0, none⟩ 1 1 [.int .i64 v] rfl rfl ?p1a ?p2a ?p3a ?p4a ?p5a ?_)
        try case p1a => exact news_one _ _ _ (by simp)
        try case p2a => first | exact one_int | rfl | simp
        try case p3a => first | (simp only [maxLen]; omega) | omega
        try case p4a => omega
        try case p5a => first | (simp only [World.size_alloc]; omega) | omega
        intro v' w3 hown' hg' _ he
        have HN3 := Lib.hid (HN2.out w3 v' (.cells #[.int .i64 v] 2) hown' hg')
        clear hown' hg' he
        go_wp2_with fail
        go_roundw
        case rel => exact ⟨k + 1, by go_num, HN3.out⟩
        case measure => simp [intOf]; omega
    · obtain rfl : k = ws.length := by omega
      have hfull : (ws.drop 1).take (ws.length - 1) = ws.drop 1 := List.take_of_length_le (by rw [List.length_drop]; exact Nat.le_refl _)
      rw [hfull] at HOk HO
      have hxl : (nsOf (ws.drop 1)).length = ws.length - 1 := by rw [nsOf_len, List.length_drop]
      have HS2 := Lib.hid (fun tt => HSm.out tt HOk.out)
      have HN2 := Lib.hid (HNn.out HOk.out)
      obtain ⟨b, off, rfl, hbB, hc⟩ := HRd.out (by rw [txs_len]; omega)
      have hbw : b < wr.heap.size := by omega
      have g0 := (HBl.out.cell (p := ⟨b, off + 0, none⟩) hbB).trans (hc 0 (by rw [txs_len]; omega))
      rw [Nat.add_zero] at g0
      rw [txs_get ws 0 (by omega)] at g0
      obtain ⟨E, hE⟩ : ∃ E, ws.getD 0 [] = E := ⟨_, rfl⟩
      obtain ⟨xs, hxs⟩ : ∃ xs, nsOf (ws.drop 1) = xs := ⟨_, rfl⟩
      rw [hE, hxs] at HS2 HN2
      rw [hE] at g0
      rw [hxs] at HO hxl
      have HXl := Lib.hid hxl
      clear hxl
      obtain ⟨A5, c5, e5, _⟩ := HO.out.form
      subst e5
      have HRx := Lib.hid HO.out.rd
      have BBr := Lib.hid (BB.out.trans (HBl.out.mono hwB))
      have bx : Below wr.heap.size wr (wr.alloc (.cells #[.int .i64 (-1), .int .i64 0, .int .i64 0, .int .i64 0, .int .i64 0, .int .i64 0, .int .i64 0] 40)) := (Below.refl _ _).alloc (Nat.le_refl _) _
      have nx := SBox.new wr (-1) 0 0 0 0 0 0
      have g1 := (bx.cell (p := ⟨b, off, none⟩) hbw).trans g0
      have zx := HSz.out.below bx HSz.out.lt
      have hzlt := HSz.out.lt
      clear hc hE hxs hfull HSm HNn HOk HO HB
      have x0 := (nx).c0; have x1 := (nx).c1; have x2 := (nx).c2; have x3 := (nx).c3; have x4 := (nx).c4; have x5 := (nx).c5; have x6 := (nx).c6
      have y0 := (nx).frz 0; have y1 := (nx).frz 1; have y2 := (nx).frz 2; have y3 := (nx).frz 3; have y4 := (nx).frz 4; have y5 := (nx).frz 5; have y6 := (nx).frz 6
      have hbeR : ((tx E).toList == [114]) = decide (E = [114]) := by
        rw [ByteArray.toList_eq, list_tx]
        by_cases h : E = [114] <;> simp [h]
      have hbeC : ((tx E).toList == [99]) = decide (E = [99]) := by
        rw [ByteArray.toList_eq, list_tx]
        by_cases h : E = [99] <;> simp [h]
      obtain ⟨T, hT⟩ : ∃ T, tx E = T := ⟨_, rfl⟩
      rw [hT] at g0 g1 hbeR hbeC
      clear hT
      by_cases hA : E = [114] ∧ xs.length = 3
      · obtain ⟨hE1, hx3⟩ := hA
        rw [decide_eq_true hE1] at hbeR
        rw [decide_eq_false (by rw [hE1]; decide)] at hbeC
        have HS3 := Lib.hid (fun t h => HS2.out t h)
        obtain ⟨x0', x1', x2', rfl⟩ : ∃ a b c, xs = [a, b, c] := by
          match xs, hx3 with
          | [a, b, c], _ => exact ⟨a, b, c, rfl⟩
        obtain ⟨b5, o5, rfl, hb5, hc5⟩ := HRx.out (by simp)
        have l0 := (bx.cell (p := ⟨b5, o5 + 0, none⟩) hb5).trans (hc5 0 (by simp))
        have l1 := (bx.cell (p := ⟨b5, o5 + 1, none⟩) hb5).trans (hc5 1 (by simp))
        have l2 := (bx.cell (p := ⟨b5, o5 + 2, none⟩) hb5).trans (hc5 2 (by simp))
        simp only [List.getD_cons_zero, List.getD_cons_succ, Nat.add_zero] at l0 l1 l2
        clear hc5
        have HFin : Hid ((streamB 0 x0' x1' 0 0 0 x2' = true → RR = some (0, x0', x1', 0, 0, 0, x2')) ∧ (streamB 0 x0' x1' 0 0 0 x2' = false → RR = none)) := Lib.hid (by
          have h1 := HS3.out (0, x0', x1', 0, 0, 0, x2') (by unfold stO; rw [if_pos ⟨hE1, rfl⟩]; rfl)
          refine ⟨fun h => ?_, fun h => ?_⟩
          · rw [h1, if_pos (show validS (0, x0', x1', 0, 0, 0, x2') = true from h)]
          · rw [h1, if_neg (by rw [show validS (0, x0', x1', 0, 0, 0, x2') = false from h]; decide)])
        clear HS3 HS2 HN2 HXl HRx
        go_wp2
        obtain ⟨W5, hW5⟩ : ∃ W5, W5 = wr.alloc (.cells #[.int .i64 (-1), .int .i64 0, .int .i64 0, .int .i64 0, .int .i64 0, .int .i64 0, .int .i64 0] 40) := ⟨_, rfl⟩
        rw [← hW5] at bx nx g1 zx x0 x1 x2 x3 x4 x5 x6 y0 y1 y2 y3 y4 y5 y6 l0 l1 l2 ⊢
        have mixed : Tryd.prog.follows .mixedOrders = true := by kernel_rfl
        have H5 := Lib.hid hW5
        clear hW5 g0
        go_region_o
        all_goals
          obtain ⟨W6, hW6⟩ : ∃ W6, W6 = (set7 W5 wr.heap.size 0 x0' x1' 0 0 0 x2').drew := ⟨_, rfl⟩
          have bd : Below (set7 W5 wr.heap.size 0 x0' x1' 0 0 0 x2').heap.size (set7 W5 wr.heap.size 0 x0' x1' 0 0 0 x2') W6 := by rw [hW6]; exact (Below.refl _ _).drew
          have hs7 := (grown_set7 W5 wr.heap.size 0 x0' x1' 0 0 0 x2').size
          have N6 : SBox W6 wr.heap.size 0 x0' x1' 0 0 0 x2' := (nx.set7 0 x0' x1' 0 0 0 x2').below bd (nx.set7 0 x0' x1' 0 0 0 x2').lt
          have Z6 : SBox W6 w.heap.size 0 0 0 0 0 0 0 := (zx.kept (grown_set7 W5 wr.heap.size 0 x0' x1' 0 0 0 x2') (fun e => by injection e with e; omega)).below bd (Nat.lt_of_lt_of_le zx.lt hs7)
          have B6 : Below w.heap.size w W6 := (below7 (b := wr.heap.size) (BBr.out.trans (bx.mono BBr.out.size)) BBr.out.size (Nat.le_trans BBr.out.size bx.size) 0 x0' x1' 0 0 0 x2').trans (bd.mono (Nat.le_trans (Nat.le_trans BBr.out.size bx.size) hs7))
          have g6 : W6.cell? ⟨b, off, none⟩ = some (.string T) := (bd.cell (p := ⟨b, off, none⟩) (by have := bx.size; show b < _; omega)).trans (cell_set7 g1 (by omega) 0 x0' x1' 0 0 0 x2')
          unfold Take.set7 at hW6
          rw [← hW6]
          clear hW6 bd hs7 bx nx zx
          have hW6' := 0
          clear hW6'
          have HI := Lib.hid (l11Is_any wr.heap.size 0 x0' x1' 0 0 0 x2' W6 N6.c0 N6.c1 N6.c2 N6.c3 N6.c4 N6.c5 N6.c6)
          have HN6 := Lib.hid N6
          have HZ6 := Lib.hid Z6
          have HB6 := Lib.hid B6
          clear N6 Z6 B6
          cases hB : streamB 0 x0' x1' 0 0 0 x2' with
          | false =>
            rw [hB] at HI
            have HNo := Lib.hid (HFin.out.2 hB)
            clear hB
            go_wp2_with fail
            refine HI.out.mono ?_
            rintro e w7 ⟨rfl, n7, hw7⟩
            have b7 : Below W6.heap.size W6 w7 := by rw [hw7]; exact below_drewN (Below.refl _ _) n7
            have RZ := HZ6.out.below b7 HZ6.out.lt
            have BB7 := Lib.hid (HB6.out.trans (b7.mono HB6.out.size))
            clear b7 hw7
            have d0 := (RZ).c0; have d1 := (RZ).c1; have d2 := (RZ).c2; have d3 := (RZ).c3; have d4 := (RZ).c4; have d5 := (RZ).c5; have d6 := (RZ).c6
            have g0 := (RZ).frz 0; have g1 := (RZ).frz 1; have g2 := (RZ).frz 2; have g3 := (RZ).frz 3; have g4 := (RZ).frz 4; have g5 := (RZ).frz 5; have g6 := (RZ).frz 6
            have S8 := RZ.set7 0 0 0 0 0 0 0
            have p0 := (S8).c0; have p1 := (S8).c1; have p2 := (S8).c2; have p3 := (S8).c3; have p4 := (S8).c4; have p5 := (S8).c5; have p6 := (S8).c6
            simp only [set7] at p0 p1 p2 p3 p4 p5 p6
            have HBN := Lib.hid (below7 (b := w.heap.size) BB7.out (Nat.le_refl _) BB7.out.size 0 0 0 0 0 0 0)
            clear S8 RZ
            go_wp2
            exact bodyPost_ret (v := .tuple #[.agg #[.int .i64 0, .int .i64 0, .int .i64 0, .int .i64 0, .int .i64 0, .int .i64 0, .int .i64 0], .bool false]) (by simp [results, Tryd.results33, go_sem, p0, p1, p2, p3, p4, p5, p6]) rfl (RdRet.no HNo.out rfl HBN.out)
          | true =>
            rw [hB] at HI
            have HYs := Lib.hid (HFin.out.1 hB)
            have HBt := Lib.hid hB
            clear hB
            go_wp2_with fail
            refine HI.out.mono ?_
            rintro e w7 ⟨rfl, n7, hw7⟩
            have b7 : Below W6.heap.size W6 w7 := by rw [hw7]; exact below_drewN (Below.refl _ _) n7
            have RZ := HZ6.out.below b7 HZ6.out.lt
            have NX := HN6.out.below b7 HN6.out.lt
            have BB7 := Lib.hid (HB6.out.trans (b7.mono HB6.out.size))
            clear b7 hw7
            have n0 := (NX).c0; have n1 := (NX).c1; have n2 := (NX).c2; have n3 := (NX).c3; have n4 := (NX).c4; have n5 := (NX).c5; have n6 := (NX).c6
            have d0 := (RZ).c0; have d1 := (RZ).c1; have d2 := (RZ).c2; have d3 := (RZ).c3; have d4 := (RZ).c4; have d5 := (RZ).c5; have d6 := (RZ).c6
            have g0 := (RZ).frz 0; have g1 := (RZ).frz 1; have g2 := (RZ).frz 2; have g3 := (RZ).frz 3; have g4 := (RZ).frz 4; have g5 := (RZ).frz 5; have g6 := (RZ).frz 6
            have S8 := RZ.set7 0 x0' x1' 0 0 0 x2'
            have p0 := (S8).c0; have p1 := (S8).c1; have p2 := (S8).c2; have p3 := (S8).c3; have p4 := (S8).c4; have p5 := (S8).c5; have p6 := (S8).c6
            simp only [set7] at p0 p1 p2 p3 p4 p5 p6
            have HBN := Lib.hid (below7 (b := w.heap.size) BB7.out (Nat.le_refl _) BB7.out.size 0 x0' x1' 0 0 0 x2')
            clear S8 RZ NX
            go_wp2
            exact bodyPost_ret (v := .tuple #[.agg #[.int .i64 0, .int .i64 x0', .int .i64 x1', .int .i64 0, .int .i64 0, .int .i64 0, .int .i64 x2'], .bool true]) (by simp [results, Tryd.results33, go_sem, p0, p1, p2, p3, p4, p5, p6]) rfl (RdRet.yes HYs.out HBt.out rfl HBN.out)
      · by_cases hC : E = [99] ∧ xs.length = 4
        · obtain ⟨hE1, hx3⟩ := hC
          rw [decide_eq_true hE1] at hbeC
          rw [decide_eq_false (by rw [hE1]; decide)] at hbeR
          have HS3 := Lib.hid (fun t h => HS2.out t h)
          obtain ⟨x0', x1', x2', x3', rfl⟩ : ∃ a b c d, xs = [a, b, c, d] := by
            match xs, hx3 with
            | [a, b, c, d], _ => exact ⟨a, b, c, d, rfl⟩
          obtain ⟨b5, o5, rfl, hb5, hc5⟩ := HRx.out (by simp)
          have l0 := (bx.cell (p := ⟨b5, o5 + 0, none⟩) hb5).trans (hc5 0 (by simp))
          have l1 := (bx.cell (p := ⟨b5, o5 + 1, none⟩) hb5).trans (hc5 1 (by simp))
          have l2 := (bx.cell (p := ⟨b5, o5 + 2, none⟩) hb5).trans (hc5 2 (by simp))
          have l3 := (bx.cell (p := ⟨b5, o5 + 3, none⟩) hb5).trans (hc5 3 (by simp))
          simp only [List.getD_cons_zero, List.getD_cons_succ, Nat.add_zero] at l0 l1 l2 l3
          clear hc5
          have HFin : Hid ((streamB 1 0 0 x0' x1' x2' x3' = true → RR = some (1, 0, 0, x0', x1', x2', x3')) ∧ (streamB 1 0 0 x0' x1' x2' x3' = false → RR = none)) := Lib.hid (by
            have h1 := HS3.out (1, 0, 0, x0', x1', x2', x3') (by unfold stO; rw [if_neg (by rw [hE1]; simp), if_pos ⟨hE1, rfl⟩]; rfl)
            refine ⟨fun h => ?_, fun h => ?_⟩
            · rw [h1, if_pos (show validS (1, 0, 0, x0', x1', x2', x3') = true from h)]
            · rw [h1, if_neg (by rw [show validS (1, 0, 0, x0', x1', x2', x3') = false from h]; decide)])
          clear HS3 HS2 HN2 HXl HRx
          go_wp2
          obtain ⟨W5, hW5⟩ : ∃ W5, W5 = wr.alloc (.cells #[.int .i64 (-1), .int .i64 0, .int .i64 0, .int .i64 0, .int .i64 0, .int .i64 0, .int .i64 0] 40) := ⟨_, rfl⟩
          rw [← hW5] at bx nx g1 zx x0 x1 x2 x3 x4 x5 x6 y0 y1 y2 y3 y4 y5 y6 l0 l1 l2 l3 ⊢
          have mixed : Tryd.prog.follows .mixedOrders = true := by kernel_rfl
          have H5 := Lib.hid hW5
          clear hW5 g0
          go_region_o
          all_goals
            obtain ⟨W6, hW6⟩ : ∃ W6, W6 = (set7 W5 wr.heap.size 1 0 0 x0' x1' x2' x3').drew := ⟨_, rfl⟩
            have bd : Below (set7 W5 wr.heap.size 1 0 0 x0' x1' x2' x3').heap.size (set7 W5 wr.heap.size 1 0 0 x0' x1' x2' x3') W6 := by rw [hW6]; exact (Below.refl _ _).drew
            have hs7 := (grown_set7 W5 wr.heap.size 1 0 0 x0' x1' x2' x3').size
            have N6 : SBox W6 wr.heap.size 1 0 0 x0' x1' x2' x3' := (nx.set7 1 0 0 x0' x1' x2' x3').below bd (nx.set7 1 0 0 x0' x1' x2' x3').lt
            have Z6 : SBox W6 w.heap.size 0 0 0 0 0 0 0 := (zx.kept (grown_set7 W5 wr.heap.size 1 0 0 x0' x1' x2' x3') (fun e => by injection e with e; omega)).below bd (Nat.lt_of_lt_of_le zx.lt hs7)
            have B6 : Below w.heap.size w W6 := (below7 (b := wr.heap.size) (BBr.out.trans (bx.mono BBr.out.size)) BBr.out.size (Nat.le_trans BBr.out.size bx.size) 1 0 0 x0' x1' x2' x3').trans (bd.mono (Nat.le_trans (Nat.le_trans BBr.out.size bx.size) hs7))
            have g6 : W6.cell? ⟨b, off, none⟩ = some (.string T) := (bd.cell (p := ⟨b, off, none⟩) (by have := bx.size; show b < _; omega)).trans (cell_set7 g1 (by omega) 1 0 0 x0' x1' x2' x3')
            unfold Take.set7 at hW6
            rw [← hW6]
            clear hW6 bd hs7 bx nx zx
            have hW6' := 0
            clear hW6'
            have HI := Lib.hid (l11Is_any wr.heap.size 1 0 0 x0' x1' x2' x3' W6 N6.c0 N6.c1 N6.c2 N6.c3 N6.c4 N6.c5 N6.c6)
            have HN6 := Lib.hid N6
            have HZ6 := Lib.hid Z6
            have HB6 := Lib.hid B6
            clear N6 Z6 B6
            cases hB : streamB 1 0 0 x0' x1' x2' x3' with
            | false =>
              rw [hB] at HI
              have HNo := Lib.hid (HFin.out.2 hB)
              clear hB
              go_wp2_with fail
              refine HI.out.mono ?_
              rintro e w7 ⟨rfl, n7, hw7⟩
              have b7 : Below W6.heap.size W6 w7 := by rw [hw7]; exact below_drewN (Below.refl _ _) n7
              have RZ := HZ6.out.below b7 HZ6.out.lt
              have BB7 := Lib.hid (HB6.out.trans (b7.mono HB6.out.size))
              clear b7 hw7
              have d0 := (RZ).c0; have d1 := (RZ).c1; have d2 := (RZ).c2; have d3 := (RZ).c3; have d4 := (RZ).c4; have d5 := (RZ).c5; have d6 := (RZ).c6
              have g0 := (RZ).frz 0; have g1 := (RZ).frz 1; have g2 := (RZ).frz 2; have g3 := (RZ).frz 3; have g4 := (RZ).frz 4; have g5 := (RZ).frz 5; have g6 := (RZ).frz 6
              have S8 := RZ.set7 0 0 0 0 0 0 0
              have p0 := (S8).c0; have p1 := (S8).c1; have p2 := (S8).c2; have p3 := (S8).c3; have p4 := (S8).c4; have p5 := (S8).c5; have p6 := (S8).c6
              simp only [set7] at p0 p1 p2 p3 p4 p5 p6
              have HBN := Lib.hid (below7 (b := w.heap.size) BB7.out (Nat.le_refl _) BB7.out.size 0 0 0 0 0 0 0)
              clear S8 RZ
              go_wp2
              exact bodyPost_ret (v := .tuple #[.agg #[.int .i64 0, .int .i64 0, .int .i64 0, .int .i64 0, .int .i64 0, .int .i64 0, .int .i64 0], .bool false]) (by simp [results, Tryd.results33, go_sem, p0, p1, p2, p3, p4, p5, p6]) rfl (RdRet.no HNo.out rfl HBN.out)
            | true =>
              rw [hB] at HI
              have HYs := Lib.hid (HFin.out.1 hB)
              have HBt := Lib.hid hB
              clear hB
              go_wp2_with fail
              refine HI.out.mono ?_
              rintro e w7 ⟨rfl, n7, hw7⟩
              have b7 : Below W6.heap.size W6 w7 := by rw [hw7]; exact below_drewN (Below.refl _ _) n7
              have RZ := HZ6.out.below b7 HZ6.out.lt
              have NX := HN6.out.below b7 HN6.out.lt
              have BB7 := Lib.hid (HB6.out.trans (b7.mono HB6.out.size))
              clear b7 hw7
              have n0 := (NX).c0; have n1 := (NX).c1; have n2 := (NX).c2; have n3 := (NX).c3; have n4 := (NX).c4; have n5 := (NX).c5; have n6 := (NX).c6
              have d0 := (RZ).c0; have d1 := (RZ).c1; have d2 := (RZ).c2; have d3 := (RZ).c3; have d4 := (RZ).c4; have d5 := (RZ).c5; have d6 := (RZ).c6
              have g0 := (RZ).frz 0; have g1 := (RZ).frz 1; have g2 := (RZ).frz 2; have g3 := (RZ).frz 3; have g4 := (RZ).frz 4; have g5 := (RZ).frz 5; have g6 := (RZ).frz 6
              have S8 := RZ.set7 1 0 0 x0' x1' x2' x3'
              have p0 := (S8).c0; have p1 := (S8).c1; have p2 := (S8).c2; have p3 := (S8).c3; have p4 := (S8).c4; have p5 := (S8).c5; have p6 := (S8).c6
              simp only [set7] at p0 p1 p2 p3 p4 p5 p6
              have HBN := Lib.hid (below7 (b := w.heap.size) BB7.out (Nat.le_refl _) BB7.out.size 1 0 0 x0' x1' x2' x3')
              clear S8 RZ NX
              go_wp2
              exact bodyPost_ret (v := .tuple #[.agg #[.int .i64 1, .int .i64 0, .int .i64 0, .int .i64 x0', .int .i64 x1', .int .i64 x2', .int .i64 x3'], .bool true]) (by simp [results, Tryd.results33, go_sem, p0, p1, p2, p3, p4, p5, p6]) rfl (RdRet.yes HYs.out HBt.out rfl HBN.out)
        · have hcA := hA
          have HNo : Hid (RR = none) := Lib.hid (HN2.out (by unfold stO; rw [if_neg hA, if_neg hC]))
          have H5 : Hid (streamB (-1) 0 0 0 0 0 0 = false) := Lib.hid (by decide)
          have hcond : (E = [114] ∧ xs.length ≠ 3) ∨ (E = [99] ∧ xs.length ≠ 4) ∨ (E ≠ [114] ∧ E ≠ [99]) := by
            by_cases h1 : E = [114]
            · exact .inl ⟨h1, fun h => hA ⟨h1, h⟩⟩
            · by_cases h2 : E = [99]
              · exact .inr (.inl ⟨h2, fun h => hC ⟨h2, h⟩⟩)
              · exact .inr (.inr ⟨h1, h2⟩)
          have N6 := nx
          have Z6 := zx
          have B6 := BBr.out.trans (bx.mono BBr.out.size)
          obtain ⟨W6, hW6⟩ : ∃ W6, W6 = wr.alloc (.cells #[.int .i64 (-1), .int .i64 0, .int .i64 0, .int .i64 0, .int .i64 0, .int .i64 0, .int .i64 0] 40) := ⟨_, rfl⟩
          rw [← hW6] at N6 Z6 B6
          have HW6 := Lib.hid hW6
          have HI := Lib.hid (l11Is_any wr.heap.size (-1) 0 0 0 0 0 0 W6 N6.c0 N6.c1 N6.c2 N6.c3 N6.c4 N6.c5 N6.c6)
          rw [H5.out] at HI
          have HZ6 := Lib.hid Z6
          have HB6 := Lib.hid B6
          clear N6 Z6 B6 hW6 bx nx zx hA hC HS2 HN2 HXl HRx
          generalize hxl : xs.length = L at *
          clear hxl
          rcases hcond with ⟨h1, h2⟩ | ⟨h1, h2⟩ | ⟨h1, h2⟩
          · rw [decide_eq_true h1] at hbeR
            rw [decide_eq_false (by rw [h1]; decide)] at hbeC
            have hL : ((L : Int) == 3) = false := beq_eq_false_iff_ne.2 (by omega)
            clear h1
            go_wp2_with fail
            rw [← HW6.out]
            refine HI.out.mono ?_
            rintro e w7 ⟨rfl, n7, hw7⟩
            have b7 : Below W6.heap.size W6 w7 := by rw [hw7]; exact below_drewN (Below.refl _ _) n7
            have RZ := HZ6.out.below b7 HZ6.out.lt
            have BB7 := Lib.hid (HB6.out.trans (b7.mono HB6.out.size))
            clear b7 hw7
            have d0 := (RZ).c0; have d1 := (RZ).c1; have d2 := (RZ).c2; have d3 := (RZ).c3; have d4 := (RZ).c4; have d5 := (RZ).c5; have d6 := (RZ).c6
            have g0 := (RZ).frz 0; have g1 := (RZ).frz 1; have g2 := (RZ).frz 2; have g3 := (RZ).frz 3; have g4 := (RZ).frz 4; have g5 := (RZ).frz 5; have g6 := (RZ).frz 6
            have S8 := RZ.set7 0 0 0 0 0 0 0
            have p0 := (S8).c0; have p1 := (S8).c1; have p2 := (S8).c2; have p3 := (S8).c3; have p4 := (S8).c4; have p5 := (S8).c5; have p6 := (S8).c6
            simp only [set7] at p0 p1 p2 p3 p4 p5 p6
            have HBN := Lib.hid (below7 (b := w.heap.size) BB7.out (Nat.le_refl _) BB7.out.size 0 0 0 0 0 0 0)
            clear S8 RZ
            go_wp2
            exact bodyPost_ret (v := .tuple #[.agg #[.int .i64 0, .int .i64 0, .int .i64 0, .int .i64 0, .int .i64 0, .int .i64 0, .int .i64 0], .bool false]) (by simp [results, Tryd.results33, go_sem, p0, p1, p2, p3, p4, p5, p6]) rfl (RdRet.no HNo.out rfl HBN.out)
          · rw [decide_eq_true h1] at hbeC
            rw [decide_eq_false (by rw [h1]; decide)] at hbeR
            have hL : ((L : Int) == 4) = false := beq_eq_false_iff_ne.2 (by omega)
            clear h1
            go_wp2_with fail
            rw [← HW6.out]
            refine HI.out.mono ?_
            rintro e w7 ⟨rfl, n7, hw7⟩
            have b7 : Below W6.heap.size W6 w7 := by rw [hw7]; exact below_drewN (Below.refl _ _) n7
            have RZ := HZ6.out.below b7 HZ6.out.lt
            have BB7 := Lib.hid (HB6.out.trans (b7.mono HB6.out.size))
            clear b7 hw7
            have d0 := (RZ).c0; have d1 := (RZ).c1; have d2 := (RZ).c2; have d3 := (RZ).c3; have d4 := (RZ).c4; have d5 := (RZ).c5; have d6 := (RZ).c6
            have g0 := (RZ).frz 0; have g1 := (RZ).frz 1; have g2 := (RZ).frz 2; have g3 := (RZ).frz 3; have g4 := (RZ).frz 4; have g5 := (RZ).frz 5; have g6 := (RZ).frz 6
            have S8 := RZ.set7 0 0 0 0 0 0 0
            have p0 := (S8).c0; have p1 := (S8).c1; have p2 := (S8).c2; have p3 := (S8).c3; have p4 := (S8).c4; have p5 := (S8).c5; have p6 := (S8).c6
            simp only [set7] at p0 p1 p2 p3 p4 p5 p6
            have HBN := Lib.hid (below7 (b := w.heap.size) BB7.out (Nat.le_refl _) BB7.out.size 0 0 0 0 0 0 0)
            clear S8 RZ
            go_wp2
            exact bodyPost_ret (v := .tuple #[.agg #[.int .i64 0, .int .i64 0, .int .i64 0, .int .i64 0, .int .i64 0, .int .i64 0, .int .i64 0], .bool false]) (by simp [results, Tryd.results33, go_sem, p0, p1, p2, p3, p4, p5, p6]) rfl (RdRet.no HNo.out rfl HBN.out)
          · rw [decide_eq_false h1] at hbeR
            rw [decide_eq_false h2] at hbeC
            clear h1 h2
            go_wp2_with fail
            rw [← HW6.out]
            refine HI.out.mono ?_
            rintro e w7 ⟨rfl, n7, hw7⟩
            have b7 : Below W6.heap.size W6 w7 := by rw [hw7]; exact below_drewN (Below.refl _ _) n7
            have RZ := HZ6.out.below b7 HZ6.out.lt
            have BB7 := Lib.hid (HB6.out.trans (b7.mono HB6.out.size))
            clear b7 hw7
            have d0 := (RZ).c0; have d1 := (RZ).c1; have d2 := (RZ).c2; have d3 := (RZ).c3; have d4 := (RZ).c4; have d5 := (RZ).c5; have d6 := (RZ).c6
            have g0 := (RZ).frz 0; have g1 := (RZ).frz 1; have g2 := (RZ).frz 2; have g3 := (RZ).frz 3; have g4 := (RZ).frz 4; have g5 := (RZ).frz 5; have g6 := (RZ).frz 6
            have S8 := RZ.set7 0 0 0 0 0 0 0
            have p0 := (S8).c0; have p1 := (S8).c1; have p2 := (S8).c2; have p3 := (S8).c3; have p4 := (S8).c4; have p5 := (S8).c5; have p6 := (S8).c6
            simp only [set7] at p0 p1 p2 p3 p4 p5 p6
            have HBN := Lib.hid (below7 (b := w.heap.size) BB7.out (Nat.le_refl _) BB7.out.size 0 0 0 0 0 0 0)
            clear S8 RZ
            go_wp2
            exact bodyPost_ret (v := .tuple #[.agg #[.int .i64 0, .int .i64 0, .int .i64 0, .int .i64 0, .int .i64 0, .int .i64 0, .int .i64 0], .bool false]) (by simp [results, Tryd.results33, go_sem, p0, p1, p2, p3, p4, p5, p6]) rfl (RdRet.no HNo.out rfl HBN.out)
end Go.Proofs.YtogadldnkhdjbaaDoor.Rd
/- A stream read from its text: the program. -/
namespace Go.Proofs.YtogadldnkhdjbaaDoor.Rd
open Go.RowKit Go.Proofs.YtogadldnkhdjbaaDoor Go.Proofs.YtogadldnkhdjbaaDoor.Base Go.Proofs.YtogadldnkhdjbaaDoor.Mem Go.Proofs.YtogadldnkhdjbaaDoor.Dec Go.Proofs.YtogadldnkhdjbaaDoor.LabM Go.Proofs.YtogadldnkhdjbaaDoor.RecJ Go.Proofs.YtogadldnkhdjbaaDoor.CutP Go.Proofs.YtogadldnkhdjbaaDoor.Val Go.Proofs.YtogadldnkhdjbaaDoor.Str Go.Proofs.YtogadldnkhdjbaaDoor.Take
set_option linter.unusedVariables false
/-- the variable that strings.Count reads holds a number -/
def MaxL (B : Nat) (w : World) : Prop := ∃ m : Int, YtogadldnkhdjbaaDoor.lays146_ren.g 1 < B ∧ w.cell? ⟨YtogadldnkhdjbaaDoor.lays146_ren.g 1, 0, none⟩ = some (.int .i64 m)
theorem MaxL.on {B : Nat} {w w' : World} (h : MaxL B w) (hb : Below B w w') : MaxL B w' := by
  obtain ⟨m, h1, h2⟩ := h
  exact ⟨m, h1, (hb.cell (p := ⟨_, 0, none⟩) h1).trans h2⟩
def SplRet (ws : List (List UInt8)) (n : Nat) (w : World) (e : Ending) (w' : World) : Prop := e = .returned (.slice (some ⟨w.heap.size, 0, none⟩) n n) ∧ (∀ i, i < (txs ws).length → w'.cell? ⟨w.heap.size, i, none⟩ = some (.string ((txs ws).getD i ByteArray.empty))) ∧ w.heap.size < w'.heap.size ∧ Below w.heap.size w w'
theorem split_to (s : ByteArray) (c : UInt8) (hs : s.size ≤ 1048576) (m : Int) (w : World) (hm : w.cell? ⟨YtogadldnkhdjbaaDoor.lays146_ren.g 1, 0, none⟩ = some (.int .i64 m)) : Calls Tryd.prog 34 #[.string s, .string ⟨#[c]⟩] w (SplRet (cutR c s.data.toList) (cutR c s.data.toList).length w) := by
  have et : YtogadldnkhdjbaaDoor.lays146_ren.t 9 = 9 := by kernel_rfl
  refine (Any.strings_Split YtogadldnkhdjbaaDoor.lays146 (by rw [et]; exact infoT) s ⟨#[c]⟩ m w (by omega) hm (Nat.le_refl 1)).mono ?_
  rintro e w' ⟨rfl, rfl⟩
  rw [et, splitB_cut]
  have hl := Lib.splitB_all ⟨#[c]⟩ (Nat.le_refl 1) 0 (Lib.countB s ⟨#[c]⟩) s rfl
  rw [splitB_cut, txs_len] at hl
  refine ⟨by rw [hl], fun i hi => ?_, by simp, (Below.refl _ _).alloc (Nat.le_refl _) _⟩
  have hcell : (w.alloc (.cells ((txs (cutR c s.data.toList)).map Value.string).toArray 9)).heap[w.heap.size]? = some (.cells ((txs (cutR c s.data.toList)).map Value.string).toArray 9 (0, 0)) := by
    show (w.heap.push _)[w.heap.size]? = _
    simp
  rw [Lib.cell_of_heap hcell]
  simp [List.getD, hi]
set_option maxHeartbeats 4000000 in
set_option maxRecDepth 100000 in
theorem implRead_any (t : ByteArray) (hs : t.size ≤ 1048576) (w : World) (hp : Pow w.heap.size w) (he : Errs w.heap.size w) (hmx : MaxL w.heap.size w) : Calls Tryd.prog 13 #[.string t] w (RdRet (rdO t.data.toList) w) := by
  obtain ⟨i0, hi, hz0, hz1, hz2⟩ := info_parts infoI
  obtain ⟨W1, hW1⟩ : ∃ W1, W1 = w.alloc (.cells #[.int .i64 0, .int .i64 0, .int .i64 0, .int .i64 0, .int .i64 0, .int .i64 0, .int .i64 0] 40) := ⟨_, rfl⟩
  have hZ : W1.heap.size = w.heap.size + 1 := by rw [hW1]; simp
  have R1 : SBox W1 w.heap.size 0 0 0 0 0 0 0 := by rw [hW1]; exact SBox.new _ _ _ _ _ _ _ _
  have B1 : Below w.heap.size w W1 := by rw [hW1]; exact (Below.refl _ _).alloc (Nat.le_refl _) _
  have hsz : t.data.toList.length = t.size := by rw [Array.length_toList]; rfl
  obtain ⟨mx, hgm, hcm⟩ := hmx.on B1
  have HC := Lib.hid (split_to t 58 hs mx W1 hcm)
  have HP0 := Lib.hid hp
  have HE0 := Lib.hid he
  clear hp he hmx hgm hcm
  have hcl := cutR_len 58 _ t.data.toList (Nat.le_refl _)
  have HRes : Hid (rdO t.data.toList = rdO t.data.toList) := Lib.hid rfl
  obtain ⟨RR, hRR⟩ : ∃ RR, rdO t.data.toList = RR := ⟨_, rfl⟩
  have HB := Lib.hid (fun h => hRR.symm.trans (rdO_bad (l := t.data.toList) h))
  have HNn := Lib.hid (fun h h2 => hRR.symm.trans (rdO_none (l := t.data.toList) h h2))
  have HSm := Lib.hid (fun tt h h2 => hRR.symm.trans (rdO_some (l := t.data.toList) (t := tt) h h2))
  rw [hRR]
  obtain ⟨ws, hws⟩ : ∃ ws, cutR 58 t.data.toList = ws := ⟨_, rfl⟩
  unfold SplRet at HC
  rw [hws] at HC HB HNn HSm hcl
  obtain ⟨hn1, hn2, hw3⟩ := hcl
  rw [hsz] at hn2 hw3
  obtain ⟨r, hr⟩ : ∃ r, ws.length = r + 1 := ⟨ws.length - 1, by omega⟩
  rw [hr] at HC
  have HLR := Lib.hid hr
  have hr2 : r ≤ 1048577 := by omega
  have HL : Hid (∀ k, k < ws.length → (tx (ws.getD k [])).size ≤ 1048576) := Lib.hid fun k hk => by
    rw [size_tx]
    have := hw3 (ws.getD k []) (by rw [List.getD_eq_getElem?_getD, List.getElem?_eq_getElem hk]; exact List.getElem_mem hk)
    omega
  have HW := Lib.hid hW1
  have HR1 := Lib.hid R1
  have HB1 := Lib.hid B1
  have HZ := Lib.hid hZ
  have hZle : w.heap.size < W1.heap.size := by omega
  clear hW1 R1 B1 hRR hws hw3 hsz HRes hr hZ
  go_enter Tryd.func13, Tryd.ntmps13
  go_wp2_with fail
  rw [← HW.out]
  refine HC.out.mono ?_
  rintro e w1 ⟨rfl, hrd, hbb0, hb1⟩
  have hs1 := hb1.size
  have HRd := Lib.hid hrd
  have BB := Lib.hid (HB1.out.trans (hb1.mono HB1.out.size))
  have HS1 := Lib.hid (HR1.out.below hb1 HR1.out.lt)
  have HB0 := Lib.hid hbb0
  clear hbb0
  have hwB : w.heap.size ≤ w1.heap.size := by have := HZ.out; omega
  have H0 : Hid (RlTo ws w1.heap.size w.heap.size w1 (.slice (some ⟨w1.heap.size, 0, none⟩) 0 0) 1 (w1.alloc (.cells #[] 2))) := Lib.hid (by
    have q2 : OwnI (w1.alloc (.cells #[] 2)) w1.heap.size (.slice (some ⟨w1.heap.size, 0, none⟩) 0 0) [] := own_lit (B := w1.heap.size) w1 (Nat.le_refl _) [] (by simp)
    have bx := (Below.refl w1.heap.size w1).alloc (Nat.le_refl _) (.cells #[] 2)
    exact ⟨Nat.le_refl _, hn1, by simp, Lib.hid (by intro x hx; simp at hx), Lib.hid (by simpa [nsOf] using q2), Lib.hid (HS1.out.below bx HS1.out.lt), Lib.hid bx⟩)
  clear hrd hb1 hn2 hn1
  rcases Nat.eq_zero_or_pos r with hr0 | hr0
  · subst hr0
    have hd0 : ws.drop 1 = [] := List.drop_of_length_le (by rw [HLR.out]; exact Nat.le_refl _)
    have HOk : okW (ws.drop 1) := by rw [hd0]; intro x hx; cases hx
    have HN2 := HNn.out HOk
    have hns : nsOf (ws.drop 1) = [] := by rw [hd0]; rfl
    rw [hns] at HN2
    have hw0 : 0 < ws.length := by rw [HLR.out]; exact Nat.zero_lt_one
    have g0 := HRd.out 0 (by rw [txs_len]; exact hw0)
    rw [txs_get ws 0 hw0] at g0
    obtain ⟨E, hE⟩ : ∃ E, ws.getD 0 [] = E := ⟨_, rfl⟩
    rw [hE] at g0 HN2
    have HNo : Hid (RR = none) := Lib.hid (HN2 (by unfold stO; rw [if_neg (by rintro ⟨_, h⟩; cases h), if_neg (by rintro ⟨_, h⟩; cases h)]))
    have ba : Below w1.heap.size w1 (w1.alloc (.cells #[] 2)) := (Below.refl _ _).alloc (Nat.le_refl _) _
    obtain ⟨wr, hwr⟩ : ∃ wr, wr = w1.alloc (.cells #[] 2) := ⟨_, rfl⟩
    rw [← hwr] at ba
    have hsr := ba.size
    have BBr := Lib.hid (BB.out.trans (ba.mono BB.out.size))
    have bx : Below wr.heap.size wr (wr.alloc (.cells #[.int .i64 0, .int .i64 0, .int .i64 0, .int .i64 0, .int .i64 0, .int .i64 0, .int .i64 0] 40)) := (Below.refl _ _).alloc (Nat.le_refl _) _
    have hbb := HB0.out
    have g1 := (bx.cell (p := ⟨W1.heap.size, 0, none⟩) (show W1.heap.size < wr.heap.size by omega)).trans ((ba.cell (p := ⟨W1.heap.size, 0, none⟩) hbb).trans g0)
    have zx := (HS1.out.below ba HS1.out.lt).below bx (Nat.lt_of_lt_of_le HS1.out.lt hsr)
    have hbeR : ((tx E).toList == [114]) = decide (E = [114]) := by
      rw [ByteArray.toList_eq, list_tx]
      by_cases h : E = [114] <;> simp [h]
    have hbeC : ((tx E).toList == [99]) = decide (E = [99]) := by
      rw [ByteArray.toList_eq, list_tx]
      by_cases h : E = [99] <;> simp [h]
    have hcond : (E = [114] ∧ True) ∨ (E = [99] ∧ True) ∨ (E ≠ [114] ∧ E ≠ [99]) := by
      by_cases h1 : E = [114]
      · exact .inl ⟨h1, trivial⟩
      · by_cases h2 : E = [99]
        · exact .inr (.inl ⟨h2, trivial⟩)
        · exact .inr (.inr ⟨h1, h2⟩)
    obtain ⟨T, hT⟩ : ∃ T, tx E = T := ⟨_, rfl⟩
    rw [hT] at g0 g1 hbeR hbeC
    have hA := 0
    have hC := 0
    have HWr := Lib.hid hwr
    clear hT hE hns HN2 HOk hd0 H0 hwr
    go_wp2
    rw [← HWr.out]
    go_loopw [5, 17] (fun v iv w5 => v = .slice (some ⟨w1.heap.size, 0, none⟩) 0 0 ∧ iv = .int .i64 0 ∧ w5 = wr) (fun _ _ _ => 0)
    case atStart => exact ⟨rfl, rfl, rfl⟩
    case round =>
      obtain ⟨rfl, rfl, rfl⟩ := hrel
      go_upto_region 13 with (fail)
      obtain ⟨W5, hW5⟩ : ∃ W5, W5 = wr.alloc (.cells #[.int .i64 0, .int .i64 0, .int .i64 0, .int .i64 0, .int .i64 0, .int .i64 0, .int .i64 0] 40) := ⟨_, rfl⟩
      rw [← hW5] at bx zx g1 ⊢
      clear hW5
      have BB7 := Lib.hid (BBr.out.trans (bx.mono BBr.out.size))
      have RZ := zx
      have d0 := (RZ).c0; have d1 := (RZ).c1; have d2 := (RZ).c2; have d3 := (RZ).c3; have d4 := (RZ).c4; have d5 := (RZ).c5; have d6 := (RZ).c6
      have zf0 := (RZ).frz 0; have zf1 := (RZ).frz 1; have zf2 := (RZ).frz 2; have zf3 := (RZ).frz 3; have zf4 := (RZ).frz 4; have zf5 := (RZ).frz 5; have zf6 := (RZ).frz 6
      have S8 := RZ.set7 0 0 0 0 0 0 0
      have p0 := (S8).c0; have p1 := (S8).c1; have p2 := (S8).c2; have p3 := (S8).c3; have p4 := (S8).c4; have p5 := (S8).c5; have p6 := (S8).c6
      simp only [set7] at p0 p1 p2 p3 p4 p5 p6
      have HBN := Lib.hid (below7 (b := w.heap.size) BB7.out (Nat.le_refl _) BB7.out.size 0 0 0 0 0 0 0)
      clear S8 RZ bx zx hA hC
      rcases hcond with ⟨h1, h2⟩ | ⟨h1, h2⟩ | ⟨h1, h2⟩
      · rw [decide_eq_true h1] at hbeR
        rw [decide_eq_false (by rw [h1]; decide)] at hbeC
        clear h1
        go_wp2
        exact bodyPost_ret (v := .tuple #[.agg #[.int .i64 0, .int .i64 0, .int .i64 0, .int .i64 0, .int .i64 0, .int .i64 0, .int .i64 0], .bool false]) (by simp [results, Tryd.results13, go_sem, p0, p1, p2, p3, p4, p5, p6]) rfl (RdRet.no HNo.out rfl HBN.out)
      · rw [decide_eq_true h1] at hbeC
        rw [decide_eq_false (by rw [h1]; decide)] at hbeR
        clear h1
        go_wp2
        exact bodyPost_ret (v := .tuple #[.agg #[.int .i64 0, .int .i64 0, .int .i64 0, .int .i64 0, .int .i64 0, .int .i64 0, .int .i64 0], .bool false]) (by simp [results, Tryd.results13, go_sem, p0, p1, p2, p3, p4, p5, p6]) rfl (RdRet.no HNo.out rfl HBN.out)
      · rw [decide_eq_false h1] at hbeR
        rw [decide_eq_false h2] at hbeC
        clear h1 h2
        go_wp2
        exact bodyPost_ret (v := .tuple #[.agg #[.int .i64 0, .int .i64 0, .int .i64 0, .int .i64 0, .int .i64 0, .int .i64 0, .int .i64 0], .bool false]) (by simp [results, Tryd.results13, go_sem, p0, p1, p2, p3, p4, p5, p6]) rfl (RdRet.no HNo.out rfl HBN.out)

  go_wp2
  go_loopw [5, 17] (fun v iv wr => ∃ j : Nat, iv = .int .i64 (j : Int) ∧ RlTo ws w1.heap.size w.heap.size w1 v (j + 1) wr) (fun _ iv _ => r - (intOf iv).toNat)
  case atStart => exact ⟨0, rfl, H0.out⟩
  case round =>
    obtain ⟨j, rfl, hk1, hk2, hBw, HOk, HO, HSz, HBl⟩ := hrel
    clear H0
    have hjr : j ≤ r := by have := HLR.out; omega
    have hbB : W1.heap.size < w1.heap.size := HB0.out
    have hbw : W1.heap.size < wr.heap.size := by omega
    have BBr := Lib.hid (BB.out.trans (HBl.out.mono hwB))
    by_cases hlr : j < r
    · have hlt : j + 1 < ws.length := by have := HLR.out; omega
      have g0 := (HBl.out.cell (p := ⟨W1.heap.size, j + 1, none⟩) hbB).trans (HRd.out (j + 1) (by rw [txs_len]; exact hlt))
      rw [txs_get ws (j + 1) hlt, Nat.add_comm j 1] at g0
      have HRel : Hid (RlTo ws w1.heap.size w.heap.size w1 u5 (j + 1) wr) := Lib.hid ⟨hk1, hk2, hBw, HOk, HO, HSz, HBl⟩
      have HVl := Lib.hid (readDec_any (tx (ws.getD (j + 1) [])) (HL.out (j + 1) hlt) w.heap.size wr (HP0.out.on BBr.out) (HE0.out.on BBr.out) BBr.out.size)
      rw [Nat.add_comm j 1] at HVl
      simp only at HVl
      have HMem : Hid (ws.getD (1 + j) [] ∈ ws.drop 1) := Lib.hid (by
        have hlt' : 1 + j < ws.length := by omega
        rw [List.getD_eq_getElem?_getD, List.getElem?_eq_getElem hlt']
        have : (ws.drop 1)[j]? = some (ws[1 + j]'hlt') := by rw [List.getElem?_drop, List.getElem?_eq_getElem hlt']
        exact List.mem_of_getElem? this)
      obtain ⟨E, hE⟩ : ∃ E, ws.getD (1 + j) [] = E := ⟨_, rfl⟩
      have HNx := Lib.hid (fun n w2 w3 v' o => RlTo.next (n := n) (w2 := w2) (w3 := w3) (v' := v') (o := o) HRel.out hlt (Nat.le_refl _))
      rw [Nat.add_comm j 1] at HNx
      rw [hE] at g0 HVl HMem HNx
      clear hE
      obtain ⟨T, hT⟩ : ∃ T, tx E = T := ⟨_, rfl⟩
      rw [hT] at g0 HVl
      clear hT
      go_wp2_with fail
      refine HVl.out.mono ?_
      rintro e w2 ⟨v, bb, rfl, hv1, hv2, hb2⟩
      cases bb with
      | false =>
        obtain ⟨rfl, hno⟩ := hv2 rfl
        have HNo : Hid (RR = none) := Lib.hid (HB.out fun h => by
          obtain ⟨x, hx⟩ := h E HMem.out
          rw [valO_no hno] at hx
          cases hx)
        have RZ := HSz.out.below hb2 HSz.out.lt
        have BB2 := Lib.hid (BB.out.trans ((HBl.out.trans (hb2.mono hBw)).mono hwB))
        clear hv1 hv2 hno hb2
        have d0 := (RZ).c0; have d1 := (RZ).c1; have d2 := (RZ).c2; have d3 := (RZ).c3; have d4 := (RZ).c4; have d5 := (RZ).c5; have d6 := (RZ).c6
        have zf0 := (RZ).frz 0; have zf1 := (RZ).frz 1; have zf2 := (RZ).frz 2; have zf3 := (RZ).frz 3; have zf4 := (RZ).frz 4; have zf5 := (RZ).frz 5; have zf6 := (RZ).frz 6
        have S8 := RZ.set7 0 0 0 0 0 0 0
        have p0 := (S8).c0; have p1 := (S8).c1; have p2 := (S8).c2; have p3 := (S8).c3; have p4 := (S8).c4; have p5 := (S8).c5; have p6 := (S8).c6
        simp only [set7] at p0 p1 p2 p3 p4 p5 p6
        have HBN := Lib.hid (below7 (b := w.heap.size) BB2.out (Nat.le_refl _) BB2.out.size 0 0 0 0 0 0 0)
        clear S8 RZ
        go_wp2
        exact bodyPost_ret (v := .tuple #[.agg #[.int .i64 0, .int .i64 0, .int .i64 0, .int .i64 0, .int .i64 0, .int .i64 0, .int .i64 0], .bool false]) (by simp [results, Tryd.results13, go_sem, p0, p1, p2, p3, p4, p5, p6]) rfl (RdRet.no HNo.out rfl HBN.out)
      | true =>
        have hvo := valO_yes (hv1 rfl)
        have HN2 := Lib.hid (fun w3 v' o => HNx.out v w2 w3 v' o hvo hb2)
        have hown := HO.out.below hb2
        have HOw := Lib.hid (ownsRow_below hown ((Below.refl w2.heap.size w2).alloc (Nat.le_refl _) (.cells #[.int .i64 v] 2)))
        have hs2 := hb2.size
        have hlen : (nsOf ((ws.drop 1).take (1 + j - 1))).length ≤ 1048577 := by rw [nsOf_len, List.length_take, List.length_drop]; omega
        clear hv1 hv2 hvo hb2 hown
        rw [show j + 1 - 1 = 1 + j - 1 by omega] at HOw
        generalize nsOf ((ws.drop 1).take (1 + j - 1)) = xs at HOw HN2 hlen
        go_wp2_with (at_builtin; refine wpList_append_own_at _ rfl (.tmp 29) (.tmp 31) 75 rfl w1.heap.size 2 i0 (.int .i64 0) 1 8 Tryd.underlying75 hi hz0 hz1 hz2 rfl (by decide) _ _ _ rfl HOw.out ⟨w2.heap.size, 0, none⟩ 1 1 [.int .i64 v] rfl rfl ?p1a ?p2a ?p3a ?p4a ?p5a ?_)
        try case p1a => exact news_one _ _ _ (by simp)
        try case p2a => first | exact one_int | rfl | simp
        try case p3a => first | (simp only [maxLen]; omega) | omega
        try case p4a => omega
        try case p5a => first | (simp only [World.size_alloc]; omega) | omega
        intro v' w3 hown' hg' _ he
        have HN3 := Lib.hid (HN2.out w3 v' (.cells #[.int .i64 v] 2) hown' hg')
        clear hown' hg' he
        go_wp2_with fail
        go_roundw
        case rel => exact ⟨j + 1, by go_num, by have := HN3.out; rw [show 1 + j + 1 = j + 1 + 1 by omega] at this; exact this⟩
        case measure => simp [intOf]; omega
    · obtain rfl : j = r := by omega
      have hfull : (ws.drop 1).take (ws.length - 1) = ws.drop 1 := List.take_of_length_le (by rw [List.length_drop]; exact Nat.le_refl _)
      rw [show j + 1 - 1 = ws.length - 1 by have := HLR.out; omega, hfull] at HOk HO
      have hxl : (nsOf (ws.drop 1)).length = ws.length - 1 := by rw [nsOf_len, List.length_drop]
      have HS2 := Lib.hid (fun tt => HSm.out tt HOk.out)
      have HN2 := Lib.hid (HNn.out HOk.out)
      have hw0 : 0 < ws.length := by have := HLR.out; omega
      have g0 := (HBl.out.cell (p := ⟨W1.heap.size, 0, none⟩) hbB).trans (HRd.out 0 (by rw [txs_len]; exact hw0))
      rw [txs_get ws 0 hw0] at g0
      obtain ⟨E, hE⟩ : ∃ E, ws.getD 0 [] = E := ⟨_, rfl⟩
      obtain ⟨xs, hxs⟩ : ∃ xs, nsOf (ws.drop 1) = xs := ⟨_, rfl⟩
      rw [hE, hxs] at HS2 HN2
      rw [hE] at g0
      rw [hxs] at HO hxl
      have HXl := Lib.hid hxl
      clear hxl
      obtain ⟨A5, c5, e5, _⟩ := HO.out.form
      subst e5
      have HRx := Lib.hid HO.out.rd
      have bx : Below wr.heap.size wr (wr.alloc (.cells #[.int .i64 0, .int .i64 0, .int .i64 0, .int .i64 0, .int .i64 0, .int .i64 0, .int .i64 0] 40)) := (Below.refl _ _).alloc (Nat.le_refl _) _
      have nx := SBox.new wr 0 0 0 0 0 0 0
      have g1 := (bx.cell (p := ⟨W1.heap.size, 0, none⟩) hbw).trans g0
      have zx := HSz.out.below bx HSz.out.lt
      have hzlt := HSz.out.lt
      clear hE hxs hfull HSm HNn HOk HO HB
      have x0 := (nx).c0; have x1 := (nx).c1; have x2 := (nx).c2; have x3 := (nx).c3; have x4 := (nx).c4; have x5 := (nx).c5; have x6 := (nx).c6
      have y0 := (nx).frz 0; have y1 := (nx).frz 1; have y2 := (nx).frz 2; have y3 := (nx).frz 3; have y4 := (nx).frz 4; have y5 := (nx).frz 5; have y6 := (nx).frz 6
      have hbeR : ((tx E).toList == [114]) = decide (E = [114]) := by
        rw [ByteArray.toList_eq, list_tx]
        by_cases h : E = [114] <;> simp [h]
      have hbeC : ((tx E).toList == [99]) = decide (E = [99]) := by
        rw [ByteArray.toList_eq, list_tx]
        by_cases h : E = [99] <;> simp [h]
      obtain ⟨T, hT⟩ : ∃ T, tx E = T := ⟨_, rfl⟩
      rw [hT] at g0 g1 hbeR hbeC
      clear hT
      by_cases hA : E = [114] ∧ xs.length = 3
      · obtain ⟨hE1, hx3⟩ := hA
        rw [decide_eq_true hE1] at hbeR
        rw [decide_eq_false (by rw [hE1]; decide)] at hbeC
        have HS3 := Lib.hid (fun t h => HS2.out t h)
        obtain ⟨x0', x1', x2', rfl⟩ : ∃ a b c, xs = [a, b, c] := by
          match xs, hx3 with
          | [a, b, c], _ => exact ⟨a, b, c, rfl⟩
        obtain ⟨b5, o5, rfl, hb5, hc5⟩ := HRx.out (by simp)
        have l0 := (bx.cell (p := ⟨b5, o5 + 0, none⟩) hb5).trans (hc5 0 (by simp))
        have l1 := (bx.cell (p := ⟨b5, o5 + 1, none⟩) hb5).trans (hc5 1 (by simp))
        have l2 := (bx.cell (p := ⟨b5, o5 + 2, none⟩) hb5).trans (hc5 2 (by simp))
        simp only [List.getD_cons_zero, List.getD_cons_succ, Nat.add_zero] at l0 l1 l2
        clear hc5
        have HFin : Hid ((streamB 0 x0' x1' 0 0 0 x2' = true → RR = some (0, x0', x1', 0, 0, 0, x2')) ∧ (streamB 0 x0' x1' 0 0 0 x2' = false → RR = none)) := Lib.hid (by
          have h1 := HS3.out (0, x0', x1', 0, 0, 0, x2') (by unfold stO; rw [if_pos ⟨hE1, rfl⟩]; rfl)
          refine ⟨fun h => ?_, fun h => ?_⟩
          · rw [h1, if_pos (show validS (0, x0', x1', 0, 0, 0, x2') = true from h)]
          · rw [h1, if_neg (by rw [show validS (0, x0', x1', 0, 0, 0, x2') = false from h]; decide)])
        clear HS3 HS2 HN2 HXl HRx
        go_wp2
        obtain ⟨W5, hW5⟩ : ∃ W5, W5 = wr.alloc (.cells #[.int .i64 0, .int .i64 0, .int .i64 0, .int .i64 0, .int .i64 0, .int .i64 0, .int .i64 0] 40) := ⟨_, rfl⟩
        rw [← hW5] at bx nx g1 zx x0 x1 x2 x3 x4 x5 x6 y0 y1 y2 y3 y4 y5 y6 l0 l1 l2 ⊢
        have mixed : Tryd.prog.follows .mixedOrders = true := by kernel_rfl
        have H5 := Lib.hid hW5
        clear hW5 g0
        go_region_o
        all_goals
          obtain ⟨W6, hW6⟩ : ∃ W6, W6 = (set7 W5 wr.heap.size 0 x0' x1' 0 0 0 x2').drew := ⟨_, rfl⟩
          have bd : Below (set7 W5 wr.heap.size 0 x0' x1' 0 0 0 x2').heap.size (set7 W5 wr.heap.size 0 x0' x1' 0 0 0 x2') W6 := by rw [hW6]; exact (Below.refl _ _).drew
          have hs7 := (grown_set7 W5 wr.heap.size 0 x0' x1' 0 0 0 x2').size
          have N6 : SBox W6 wr.heap.size 0 x0' x1' 0 0 0 x2' := (nx.set7 0 x0' x1' 0 0 0 x2').below bd (nx.set7 0 x0' x1' 0 0 0 x2').lt
          have Z6 : SBox W6 w.heap.size 0 0 0 0 0 0 0 := (zx.kept (grown_set7 W5 wr.heap.size 0 x0' x1' 0 0 0 x2') (fun e => by injection e with e; omega)).below bd (Nat.lt_of_lt_of_le zx.lt hs7)
          have B6 : Below w.heap.size w W6 := (below7 (b := wr.heap.size) (BBr.out.trans (bx.mono BBr.out.size)) BBr.out.size (Nat.le_trans BBr.out.size bx.size) 0 x0' x1' 0 0 0 x2').trans (bd.mono (Nat.le_trans (Nat.le_trans BBr.out.size bx.size) hs7))
          have g6 : W6.cell? ⟨W1.heap.size, 0, none⟩ = some (.string T) := (bd.cell (p := ⟨W1.heap.size, 0, none⟩) (by have := bx.size; show W1.heap.size < _; omega)).trans (cell_set7 g1 (by omega) 0 x0' x1' 0 0 0 x2')
          unfold Take.set7 at hW6
          rw [← hW6]
          clear hW6 bd hs7 bx nx zx
          have hW6' := 0
          clear hW6'
          have HI := Lib.hid (validStream_any 0 x0' x1' 0 0 0 x2' W6)
          have HN6 := Lib.hid N6
          have HZ6 := Lib.hid Z6
          have HB6 := Lib.hid B6
          clear N6 Z6 B6
          have n0 := (HN6.out).c0; have n1 := (HN6.out).c1; have n2 := (HN6.out).c2; have n3 := (HN6.out).c3; have n4 := (HN6.out).c4; have n5 := (HN6.out).c5; have n6 := (HN6.out).c6
          cases hB : streamB 0 x0' x1' 0 0 0 x2' with
          | false =>
            rw [hB] at HI
            have HNo := Lib.hid (HFin.out.2 hB)
            clear hB
            go_wp2_with fail
            refine HI.out.mono ?_
            rintro e w7 ⟨rfl, b7⟩
            have RZ := HZ6.out.below b7 HZ6.out.lt
            have BB7 := Lib.hid (HB6.out.trans (b7.mono HB6.out.size))
            clear b7 n0 n1 n2 n3 n4 n5 n6
            have d0 := (RZ).c0; have d1 := (RZ).c1; have d2 := (RZ).c2; have d3 := (RZ).c3; have d4 := (RZ).c4; have d5 := (RZ).c5; have d6 := (RZ).c6
            have zf0 := (RZ).frz 0; have zf1 := (RZ).frz 1; have zf2 := (RZ).frz 2; have zf3 := (RZ).frz 3; have zf4 := (RZ).frz 4; have zf5 := (RZ).frz 5; have zf6 := (RZ).frz 6
            have S8 := RZ.set7 0 0 0 0 0 0 0
            have p0 := (S8).c0; have p1 := (S8).c1; have p2 := (S8).c2; have p3 := (S8).c3; have p4 := (S8).c4; have p5 := (S8).c5; have p6 := (S8).c6
            simp only [set7] at p0 p1 p2 p3 p4 p5 p6
            have HBN := Lib.hid (below7 (b := w.heap.size) BB7.out (Nat.le_refl _) BB7.out.size 0 0 0 0 0 0 0)
            clear S8 RZ
            go_wp2
            exact bodyPost_ret (v := .tuple #[.agg #[.int .i64 0, .int .i64 0, .int .i64 0, .int .i64 0, .int .i64 0, .int .i64 0, .int .i64 0], .bool false]) (by simp [results, Tryd.results13, go_sem, p0, p1, p2, p3, p4, p5, p6]) rfl (RdRet.no HNo.out rfl HBN.out)
          | true =>
            rw [hB] at HI
            have HYs := Lib.hid (HFin.out.1 hB)
            have HBt := Lib.hid hB
            clear hB
            go_wp2_with fail
            refine HI.out.mono ?_
            rintro e w7 ⟨rfl, b7⟩
            have RZ := HZ6.out.below b7 HZ6.out.lt
            have NX := HN6.out.below b7 HN6.out.lt
            have BB7 := Lib.hid (HB6.out.trans (b7.mono HB6.out.size))
            clear b7 n0 n1 n2 n3 n4 n5 n6
            have m0 := (NX).c0; have m1 := (NX).c1; have m2 := (NX).c2; have m3 := (NX).c3; have m4 := (NX).c4; have m5 := (NX).c5; have m6 := (NX).c6
            have d0 := (RZ).c0; have d1 := (RZ).c1; have d2 := (RZ).c2; have d3 := (RZ).c3; have d4 := (RZ).c4; have d5 := (RZ).c5; have d6 := (RZ).c6
            have zf0 := (RZ).frz 0; have zf1 := (RZ).frz 1; have zf2 := (RZ).frz 2; have zf3 := (RZ).frz 3; have zf4 := (RZ).frz 4; have zf5 := (RZ).frz 5; have zf6 := (RZ).frz 6
            have S8 := RZ.set7 0 x0' x1' 0 0 0 x2'
            have p0 := (S8).c0; have p1 := (S8).c1; have p2 := (S8).c2; have p3 := (S8).c3; have p4 := (S8).c4; have p5 := (S8).c5; have p6 := (S8).c6
            simp only [set7] at p0 p1 p2 p3 p4 p5 p6
            have HBN := Lib.hid (below7 (b := w.heap.size) BB7.out (Nat.le_refl _) BB7.out.size 0 x0' x1' 0 0 0 x2')
            clear S8 RZ NX
            go_wp2
            exact bodyPost_ret (v := .tuple #[.agg #[.int .i64 0, .int .i64 x0', .int .i64 x1', .int .i64 0, .int .i64 0, .int .i64 0, .int .i64 x2'], .bool true]) (by simp [results, Tryd.results13, go_sem, p0, p1, p2, p3, p4, p5, p6]) rfl (RdRet.yes HYs.out HBt.out rfl HBN.out)
      · by_cases hC : E = [99] ∧ xs.length = 4
        · obtain ⟨hE1, hx3⟩ := hC
          rw [decide_eq_true hE1] at hbeC
          rw [decide_eq_false (by rw [hE1]; decide)] at hbeR
          have HS3 := Lib.hid (fun t h => HS2.out t h)
          obtain ⟨x0', x1', x2', x3', rfl⟩ : ∃ a b c d, xs = [a, b, c, d] := by
            match xs, hx3 with
            | [a, b, c, d], _ => exact ⟨a, b, c, d, rfl⟩
          obtain ⟨b5, o5, rfl, hb5, hc5⟩ := HRx.out (by simp)
          have l0 := (bx.cell (p := ⟨b5, o5 + 0, none⟩) hb5).trans (hc5 0 (by simp))
          have l1 := (bx.cell (p := ⟨b5, o5 + 1, none⟩) hb5).trans (hc5 1 (by simp))
          have l2 := (bx.cell (p := ⟨b5, o5 + 2, none⟩) hb5).trans (hc5 2 (by simp))
          have l3 := (bx.cell (p := ⟨b5, o5 + 3, none⟩) hb5).trans (hc5 3 (by simp))
          simp only [List.getD_cons_zero, List.getD_cons_succ, Nat.add_zero] at l0 l1 l2 l3
          clear hc5
          have HFin : Hid ((streamB 1 0 0 x0' x1' x2' x3' = true → RR = some (1, 0, 0, x0', x1', x2', x3')) ∧ (streamB 1 0 0 x0' x1' x2' x3' = false → RR = none)) := Lib.hid (by
            have h1 := HS3.out (1, 0, 0, x0', x1', x2', x3') (by unfold stO; rw [if_neg (by rw [hE1]; simp), if_pos ⟨hE1, rfl⟩]; rfl)
            refine ⟨fun h => ?_, fun h => ?_⟩
            · rw [h1, if_pos (show validS (1, 0, 0, x0', x1', x2', x3') = true from h)]
            · rw [h1, if_neg (by rw [show validS (1, 0, 0, x0', x1', x2', x3') = false from h]; decide)])
          clear HS3 HS2 HN2 HXl HRx
          go_wp2
          obtain ⟨W5, hW5⟩ : ∃ W5, W5 = wr.alloc (.cells #[.int .i64 0, .int .i64 0, .int .i64 0, .int .i64 0, .int .i64 0, .int .i64 0, .int .i64 0] 40) := ⟨_, rfl⟩
          rw [← hW5] at bx nx g1 zx x0 x1 x2 x3 x4 x5 x6 y0 y1 y2 y3 y4 y5 y6 l0 l1 l2 l3 ⊢
          have mixed : Tryd.prog.follows .mixedOrders = true := by kernel_rfl
          have H5 := Lib.hid hW5
          clear hW5 g0
          go_region_o
          all_goals
            obtain ⟨W6, hW6⟩ : ∃ W6, W6 = (set7 W5 wr.heap.size 1 0 0 x0' x1' x2' x3').drew := ⟨_, rfl⟩
            have bd : Below (set7 W5 wr.heap.size 1 0 0 x0' x1' x2' x3').heap.size (set7 W5 wr.heap.size 1 0 0 x0' x1' x2' x3') W6 := by rw [hW6]; exact (Below.refl _ _).drew
            have hs7 := (grown_set7 W5 wr.heap.size 1 0 0 x0' x1' x2' x3').size
            have N6 : SBox W6 wr.heap.size 1 0 0 x0' x1' x2' x3' := (nx.set7 1 0 0 x0' x1' x2' x3').below bd (nx.set7 1 0 0 x0' x1' x2' x3').lt
            have Z6 : SBox W6 w.heap.size 0 0 0 0 0 0 0 := (zx.kept (grown_set7 W5 wr.heap.size 1 0 0 x0' x1' x2' x3') (fun e => by injection e with e; omega)).below bd (Nat.lt_of_lt_of_le zx.lt hs7)
            have B6 : Below w.heap.size w W6 := (below7 (b := wr.heap.size) (BBr.out.trans (bx.mono BBr.out.size)) BBr.out.size (Nat.le_trans BBr.out.size bx.size) 1 0 0 x0' x1' x2' x3').trans (bd.mono (Nat.le_trans (Nat.le_trans BBr.out.size bx.size) hs7))
            have g6 : W6.cell? ⟨W1.heap.size, 0, none⟩ = some (.string T) := (bd.cell (p := ⟨W1.heap.size, 0, none⟩) (by have := bx.size; show W1.heap.size < _; omega)).trans (cell_set7 g1 (by omega) 1 0 0 x0' x1' x2' x3')
            unfold Take.set7 at hW6
            rw [← hW6]
            clear hW6 bd hs7 bx nx zx
            have hW6' := 0
            clear hW6'
            have HI := Lib.hid (validStream_any 1 0 0 x0' x1' x2' x3' W6)
            have HN6 := Lib.hid N6
            have HZ6 := Lib.hid Z6
            have HB6 := Lib.hid B6
            clear N6 Z6 B6
            have n0 := (HN6.out).c0; have n1 := (HN6.out).c1; have n2 := (HN6.out).c2; have n3 := (HN6.out).c3; have n4 := (HN6.out).c4; have n5 := (HN6.out).c5; have n6 := (HN6.out).c6
            cases hB : streamB 1 0 0 x0' x1' x2' x3' with
            | false =>
              rw [hB] at HI
              have HNo := Lib.hid (HFin.out.2 hB)
              clear hB
              go_wp2_with fail
              refine HI.out.mono ?_
              rintro e w7 ⟨rfl, b7⟩
              have RZ := HZ6.out.below b7 HZ6.out.lt
              have BB7 := Lib.hid (HB6.out.trans (b7.mono HB6.out.size))
              clear b7 n0 n1 n2 n3 n4 n5 n6
              have d0 := (RZ).c0; have d1 := (RZ).c1; have d2 := (RZ).c2; have d3 := (RZ).c3; have d4 := (RZ).c4; have d5 := (RZ).c5; have d6 := (RZ).c6
              have zf0 := (RZ).frz 0; have zf1 := (RZ).frz 1; have zf2 := (RZ).frz 2; have zf3 := (RZ).frz 3; have zf4 := (RZ).frz 4; have zf5 := (RZ).frz 5; have zf6 := (RZ).frz 6
              have S8 := RZ.set7 0 0 0 0 0 0 0
              have p0 := (S8).c0; have p1 := (S8).c1; have p2 := (S8).c2; have p3 := (S8).c3; have p4 := (S8).c4; have p5 := (S8).c5; have p6 := (S8).c6
              simp only [set7] at p0 p1 p2 p3 p4 p5 p6
              have HBN := Lib.hid (below7 (b := w.heap.size) BB7.out (Nat.le_refl _) BB7.out.size 0 0 0 0 0 0 0)
              clear S8 RZ
              go_wp2
              exact bodyPost_ret (v := .tuple #[.agg #[.int .i64 0, .int .i64 0, .int .i64 0, .int .i64 0, .int .i64 0, .int .i64 0, .int .i64 0], .bool false]) (by simp [results, Tryd.results13, go_sem, p0, p1, p2, p3, p4, p5, p6]) rfl (RdRet.no HNo.out rfl HBN.out)
            | true =>
              rw [hB] at HI
              have HYs := Lib.hid (HFin.out.1 hB)
              have HBt := Lib.hid hB
              clear hB
              go_wp2_with fail
              refine HI.out.mono ?_
              rintro e w7 ⟨rfl, b7⟩
              have RZ := HZ6.out.below b7 HZ6.out.lt
              have NX := HN6.out.below b7 HN6.out.lt
              have BB7 := Lib.hid (HB6.out.trans (b7.mono HB6.out.size))
              clear b7 n0 n1 n2 n3 n4 n5 n6
              have m0 := (NX).c0; have m1 := (NX).c1; have m2 := (NX).c2; have m3 := (NX).c3; have m4 := (NX).c4; have m5 := (NX).c5; have m6 := (NX).c6
              have d0 := (RZ).c0; have d1 := (RZ).c1; have d2 := (RZ).c2; have d3 := (RZ).c3; have d4 := (RZ).c4; have d5 := (RZ).c5; have d6 := (RZ).c6
              have zf0 := (RZ).frz 0; have zf1 := (RZ).frz 1; have zf2 := (RZ).frz 2; have zf3 := (RZ).frz 3; have zf4 := (RZ).frz 4; have zf5 := (RZ).frz 5; have zf6 := (RZ).frz 6
              have S8 := RZ.set7 1 0 0 x0' x1' x2' x3'
              have p0 := (S8).c0; have p1 := (S8).c1; have p2 := (S8).c2; have p3 := (S8).c3; have p4 := (S8).c4; have p5 := (S8).c5; have p6 := (S8).c6
              simp only [set7] at p0 p1 p2 p3 p4 p5 p6
              have HBN := Lib.hid (below7 (b := w.heap.size) BB7.out (Nat.le_refl _) BB7.out.size 1 0 0 x0' x1' x2' x3')
              clear S8 RZ NX
              go_wp2
              exact bodyPost_ret (v := .tuple #[.agg #[.int .i64 1, .int .i64 0, .int .i64 0, .int .i64 x0', .int .i64 x1', .int .i64 x2', .int .i64 x3'], .bool true]) (by simp [results, Tryd.results13, go_sem, p0, p1, p2, p3, p4, p5, p6]) rfl (RdRet.yes HYs.out HBt.out rfl HBN.out)
        · have hcA := hA
          have HNo : Hid (RR = none) := Lib.hid (HN2.out (by unfold stO; rw [if_neg hA, if_neg hC]))
          have hcond : (E = [114] ∧ xs.length ≠ 3) ∨ (E = [99] ∧ xs.length ≠ 4) ∨ (E ≠ [114] ∧ E ≠ [99]) := by
            by_cases h1 : E = [114]
            · exact .inl ⟨h1, fun h => hA ⟨h1, h⟩⟩
            · by_cases h2 : E = [99]
              · exact .inr (.inl ⟨h2, fun h => hC ⟨h2, h⟩⟩)
              · exact .inr (.inr ⟨h1, h2⟩)
          clear nx x0 x1 x2 x3 x4 x5 x6 y0 y1 y2 y3 y4 y5 y6
          go_upto_region 13 with (fail)
          obtain ⟨W5, hW5⟩ : ∃ W5, W5 = wr.alloc (.cells #[.int .i64 0, .int .i64 0, .int .i64 0, .int .i64 0, .int .i64 0, .int .i64 0, .int .i64 0] 40) := ⟨_, rfl⟩
          rw [← hW5] at bx zx g1 ⊢
          clear hW5
          have BB7 := Lib.hid (BBr.out.trans (bx.mono BBr.out.size))
          have RZ := zx
          have d0 := (RZ).c0; have d1 := (RZ).c1; have d2 := (RZ).c2; have d3 := (RZ).c3; have d4 := (RZ).c4; have d5 := (RZ).c5; have d6 := (RZ).c6
          have zf0 := (RZ).frz 0; have zf1 := (RZ).frz 1; have zf2 := (RZ).frz 2; have zf3 := (RZ).frz 3; have zf4 := (RZ).frz 4; have zf5 := (RZ).frz 5; have zf6 := (RZ).frz 6
          have S8 := RZ.set7 0 0 0 0 0 0 0
          have p0 := (S8).c0; have p1 := (S8).c1; have p2 := (S8).c2; have p3 := (S8).c3; have p4 := (S8).c4; have p5 := (S8).c5; have p6 := (S8).c6
          simp only [set7] at p0 p1 p2 p3 p4 p5 p6
          have HBN := Lib.hid (below7 (b := w.heap.size) BB7.out (Nat.le_refl _) BB7.out.size 0 0 0 0 0 0 0)
          clear S8 RZ bx zx hA hC HS2 HN2 HXl HRx
          generalize hxl : xs.length = L at *
          clear hxl
          rcases hcond with ⟨h1, h2⟩ | ⟨h1, h2⟩ | ⟨h1, h2⟩
          · rw [decide_eq_true h1] at hbeR
            rw [decide_eq_false (by rw [h1]; decide)] at hbeC
            have hL : ((L : Int) == 3) = false := beq_eq_false_iff_ne.2 (by omega)
            clear h1
            go_wp2
            exact bodyPost_ret (v := .tuple #[.agg #[.int .i64 0, .int .i64 0, .int .i64 0, .int .i64 0, .int .i64 0, .int .i64 0, .int .i64 0], .bool false]) (by simp [results, Tryd.results13, go_sem, p0, p1, p2, p3, p4, p5, p6]) rfl (RdRet.no HNo.out rfl HBN.out)
          · rw [decide_eq_true h1] at hbeC
            rw [decide_eq_false (by rw [h1]; decide)] at hbeR
            have hL : ((L : Int) == 4) = false := beq_eq_false_iff_ne.2 (by omega)
            clear h1
            go_wp2
            exact bodyPost_ret (v := .tuple #[.agg #[.int .i64 0, .int .i64 0, .int .i64 0, .int .i64 0, .int .i64 0, .int .i64 0, .int .i64 0], .bool false]) (by simp [results, Tryd.results13, go_sem, p0, p1, p2, p3, p4, p5, p6]) rfl (RdRet.no HNo.out rfl HBN.out)
          · rw [decide_eq_false h1] at hbeR
            rw [decide_eq_false h2] at hbeC
            clear h1 h2
            go_wp2
            exact bodyPost_ret (v := .tuple #[.agg #[.int .i64 0, .int .i64 0, .int .i64 0, .int .i64 0, .int .i64 0, .int .i64 0, .int .i64 0], .bool false]) (by simp [results, Tryd.results13, go_sem, p0, p1, p2, p3, p4, p5, p6]) rfl (RdRet.no HNo.out rfl HBN.out)
end Go.Proofs.YtogadldnkhdjbaaDoor.Rd

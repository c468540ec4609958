/- The reference: the average distance. -/
import Derived.Test.YtionognmgcabbaaGreatMgAve12
import Derived.Test.YtionognmgcabbaaGreatMgAve20
import Derived.Test.YtionognmgcabbaaGreatMgAve21
import Derived.Test.YtionognmgcabbaaGreatMgAve08
import Derived.Test.YtionognmgcabbaaGreatMgAve07
import Derived.Test.YtionognmgcabbaaGreatMgAve01
import Derived.Deep.Slices
import Derived.Test.YtionognmgcabbaaGreatRows
import Derived.Below
import Derived.ChangeSame
import Derived.Carry
import Derived.OpenShut
import Derived.Lib.SmallJoins
namespace Go.Proofs.YtionognmgcabbaaGreat.Wide
open Go.RowKit Go.Proofs.YtionognmgcabbaaGreat Go.Proofs.YtionognmgcabbaaGreat.Base Go.Proofs.YtionognmgcabbaaGreat.Mem Go.Proofs.YtionognmgcabbaaGreat.MemF Go.Proofs.YtionognmgcabbaaGreat.ChM Go.Proofs.YtionognmgcabbaaGreat.GaussM Go.Proofs.YtionognmgcabbaaGreat.GiveM Go.Proofs.YtionognmgcabbaaGreat.Ratio Go.Proofs.YtionognmgcabbaaGreat.NextM Go.Proofs.YtionognmgcabbaaGreat.NextS Go.Proofs.YtionognmgcabbaaGreat.Blk Go.Proofs.YtionognmgcabbaaGreat.RatM Go.Proofs.YtionognmgcabbaaGreat.Fine
set_option linter.unusedVariables false
theorem nextS_any {A : Option Addr} {c B n N : Nat} {xs : List Int} (w : World) (hx : RdI w B A xs) (hB : B ≤ w.heap.size) (hl : xs.length = n) (h1 : 1 ≤ n) (h3 : n ≤ 3) (hr : ∀ i, i < n → 0 ≤ xs.getD i 0 ∧ xs.getD i 0 ≤ 15) (hN1 : 1 ≤ N) (hN4 : N ≤ 4) :
    Calls Tryz.prog 64 #[.slice A n c, .int .i64 (N : Int)] w (ListMade (nextL N xs) w) := by
  have h4 : N = 1 ∨ N = 2 ∨ N = 3 ∨ N = 4 := by omega
  rcases h4 with rfl | rfl | rfl | rfl
  · exact nextS_n1 A c B n xs w hx hB hl h1 h3 hr
  · exact nextS_n2 A c B n xs w hx hB hl h1 h3 hr
  · exact nextS_n3 A c B n xs w hx hB hl h1 h3 hr
  · exact nextS_n4 A c B n xs w hx hB hl h1 h3 hr
theorem rdI_kept {w w' : World} {A : Option Addr} {xs : List Int} {own : Option Nat} (h : RdI w w.heap.size A xs) (hg : w.grownBy w' own) (hne : ∀ a, A = some a → own ≠ some a.block) : RdI w' w'.heap.size A xs := fun h0 => by
  obtain ⟨b, off, e, hlt, hc⟩ := h h0
  have hn := hne _ e
  exact ⟨b, off, e, Nat.lt_of_lt_of_le hlt hg.size, fun j hj => (hg.cell_far ⟨b, off + j, none⟩ hlt (fun e2 => hn e2.symm)).trans (hc j hj)⟩
theorem inv_qf {T : Nat} (h : 1 ≤ T) : qf 1 (T : Int) = ((T : Nat) : Rat)⁻¹ := by
  unfold qf qv
  simp [Rat.div_def]
def rowsAt (C N T k : Nat) : List Int := if k < T then rowsOf C N k else []
structure AsI (C N T n : Nat) (fs : List Int) (w : World) (k : Nat) (cs : List Value) (L : List Int) (A' : Option Addr) (lv : Value) (wr : World) : Prop where
  list : OwnW wr w.heap.size lv k (farC C N fs n) 468 cs
  rows : RdI wr wr.heap.size A' L
  apart : 0 < L.length → ∀ a, A' = some a → lv.ownBlock ≠ some a.block
  below : Below w.heap.size w wr
def AsRel (C N T n : Nat) (fs : List Int) (w : World) (lv rv : Value) (wr : World) : Prop :=
  ∃ (k : Nat) (cs : List Value) (A' : Option Addr) (c' : Nat), k ≤ T ∧ rv = .slice A' (rowsAt C N T k).length c' ∧ Hid (AsI C N T n fs w k cs (rowsAt C N T k) A' lv wr)
theorem rdI_start (w : World) (C : Nat) (hC : C ≤ 3) : OwnI (w.alloc (.cells (madeCells #[.int .i64 0] C) 2)) w.heap.size (.slice (some ⟨w.heap.size, 0, none⟩) C C) (List.replicate C 0) := by
  have := World.ownsRow_lit (e := 2) (size := 1) (base := w.heap.size) w (madeCells #[.int .i64 0] C) C (Nat.le_refl _) (by simp [maxLen]; omega) (by simp [size_madeCells])
  rw [toList_madeCells_one] at this
  unfold OwnI
  rw [List.length_replicate, show ints (List.replicate C 0) = List.replicate C (.int .i64 0) by simp [ints]]
  exact this
set_option maxHeartbeats 4000000 in
set_option maxRecDepth 100000 in
theorem specAvg_any {A : Option Addr} {c B n : Nat} {fs : List Int} (t : Int) (w : World) (hy : RdF w B A n fs) (hB : B ≤ w.heap.size) (hn : n ≤ 1048576) :
    Calls Tryz.prog 27 #[.int .i64 t, .slice A n c] w (FrRet (avP t fs n) (avD t fs n) (avB t fs n) w) := by
  obtain ⟨iw, wi, wz0, wz1, wz2⟩ := info_parts infoW
  have hb0 : Below w.heap.size w (w.alloc (.cells #[.int .i64 0, .int .i64 0] 43)) := (Below.refl _ _).alloc (Nat.le_refl _) _
  have KR0 : Hid (Blk (w.alloc (.cells #[.int .i64 0, .int .i64 0] 43)) w.heap.size 43 #[.int .i64 0, .int .i64 0]) := Lib.hid (Blk.new w _ _)
  have HB0 := Lib.hid hb0
  have HY := Lib.hid ((hy.below hb0 hB).more (Nat.le_trans hB hb0.size))
  clear hy hb0
  have HCN := Lib.hid (CntS.count_any (c := c) t (w.alloc (.cells #[.int .i64 0, .int .i64 0] 43)) HY.out (Nat.le_refl _) (by omega))
  cases h : AllI.okA t fs n with
  | false =>
    obtain ⟨e1, e2, e3⟩ := av_no h
    rw [e1, e2, e3]
    rw [h] at HCN
    clear e1 e2 e3 h
    go_enter Tryz.func27, Tryz.ntmps27
    go_wp2_with fail
    refine HCN.out.mono ?_
    rintro e w1 ⟨rfl, hb1⟩
    have KRq := KR0.out.belowS hb1
    have HBq := Base.Below.nextA HB0.out hb1
    clear hb1 HCN HB0 KR0
    have z0 := (KRq).frz 0
    have z1 := (KRq).frz 1
    have c0 := (KRq).at 0 (v := .int .i64 0) rfl
    have c1 := (KRq).at 1 (v := .int .i64 0) rfl
    have HFIN := Lib.hid (fr_put (P := 0) (Q := 0) (ok := false) (HBq) (Nat.le_refl _))
    have SS := ((KRq).setTo 0 (.int .i64 0) rfl).setTo 1 (.int .i64 0) rfl
    have s0 := SS.at 0 rfl
    have s1 := SS.at 1 rfl
    clear SS
    go_wp2
    refine bodyPost_ret (v := .tuple #[.agg #[.int .i64 0, .int .i64 0], .bool false]) (by simp [results, Tryz.results27, go_sem, s0, s1]) rfl ?_
    exact HFIN.out
  | true =>
    obtain ⟨e1, e2, e3⟩ := av_yes h
    rw [e1, e2, e3]
    rw [h] at HCN
    clear e1 e2 e3
    obtain ⟨C, rfl, hC1, hC3, hN1, hCN⟩ := AllI.okA_yes h
    have hch := bits_ch hN1
    obtain ⟨_, h16⟩ := chB_range hch
    have hv : AllVF fs n := vfAll_true.1 (by
      cases hvf : vfAll fs n with
      | true => rfl
      | false => rw [chB_vf hvf] at hch; cases hch)
    have hT : 2 ^ (C * bitsQ fs n) ≤ 256 := pow_le hCN
    have hN4 := AllI.bits_le fs n
    have hQ : avQ (C : Int) fs n = sumR (2 ^ (C * bitsQ fs n)) (farC C (bitsQ fs n) fs n) * ((2 ^ (C * bitsQ fs n) : Nat) : Rat)⁻¹ := by unfold avQ avT; rw [Int.toNat_natCast]
    have hT1 : 1 ≤ 2 ^ (C * bitsQ fs n) := Nat.pow_pos (by decide)
    have hinv : ((2 ^ (C * bitsQ fs n) : Nat) : Rat)⁻¹ = qf 1 ((2 ^ (C * bitsQ fs n) : Nat) : Int) := (inv_qf hT1).symm
    rw [hQ, hinv]
    obtain ⟨P, hP⟩ : ∃ P, P = numQ (sumR (2 ^ (C * bitsQ fs n)) (farC C (bitsQ fs n) fs n) * qf 1 ((2 ^ (C * bitsQ fs n) : Nat) : Int)) := ⟨_, rfl⟩
    obtain ⟨Q, hQ2⟩ : ∃ Q, Q = denQ (sumR (2 ^ (C * bitsQ fs n)) (farC C (bitsQ fs n) fs n) * qf 1 ((2 ^ (C * bitsQ fs n) : Nat) : Int)) := ⟨_, rfl⟩
    obtain ⟨ok, hK2⟩ : ∃ ok, ok = smallQ (sumR (2 ^ (C * bitsQ fs n)) (farC C (bitsQ fs n) fs n) * qf 1 ((2 ^ (C * bitsQ fs n) : Nat) : Int)) := ⟨_, rfl⟩
    rw [← hP, ← hQ2, ← hK2]
    have HP0 := Lib.hid hP
    have HQQ := Lib.hid hQ2
    have HKK := Lib.hid hK2
    clear h hch hQ hinv hP hQ2 hK2
    have HFA := Lib.hid (fun k W A' c' (hb : Below (w.alloc (.cells #[.int .i64 0, .int .i64 0] 43)).heap.size (w.alloc (.cells #[.int .i64 0, .int .i64 0] 43)) W) (hr : RdI W W.heap.size A' (rowsOf C (bitsQ fs n) k)) => farS_any (c := c) (c' := c') (xs := rowsOf C (bitsQ fs n) k) W (HY.out.below hb (Nat.le_refl _)) hb.size hv h16 hr (Nat.le_refl _) (by rw [rowsOf_len]; exact hC1) (by rw [rowsOf_len]; exact hC3) (fun i hi => by
      rw [rowsOf_len] at hi
      have h1 := rowsOf_lt (n := bitsQ fs n) (code := k) hi
      have h2 : 2 ^ bitsQ fs n ≤ 2 ^ 4 := Nat.pow_le_pow_right (by decide) hN4
      omega))
    have HNE := Lib.hid (fun k (hk : k < 2 ^ (C * bitsQ fs n)) W A' c' (hr : RdI W W.heap.size A' (rowsOf C (bitsQ fs n) k)) => nextS_any (c := c') (n := C) W hr (Nat.le_refl _) (rowsOf_len _ _ _) hC1 hC3 (fun i hi => by
      have h1 := rowsOf_lt (n := bitsQ fs n) (code := k) hi
      have h2 : 2 ^ bitsQ fs n ≤ 2 ^ 4 := Nat.pow_le_pow_right (by decide) hN4
      omega) hN1 hN4)
    have HNX := Lib.hid (fun k (hk : k < 2 ^ (C * bitsQ fs n)) => next_of hC1 hC3 hN1 hN4 hCN hk)
    have HFC : Hid (∀ k, farQ (rowsOf C (bitsQ fs n) k) fs n = farC C (bitsQ fs n) fs n k) := Lib.hid (fun k => rfl)
    have HR0 : Hid (rowsAt C (bitsQ fs n) (2 ^ (C * bitsQ fs n)) 0 = List.replicate C 0) := Lib.hid (by unfold rowsAt; rw [if_pos (by omega), rowsOf_zero])
    have hmk := run_make_row' (P := Tryz.prog) 41 2 (.int .i64 0) 8 Tryz.underlying41 infoI rfl .i64 .i64 C (by omega) (by omega)
    generalize bitsQ fs n = N at *
    generalize 2 ^ (C * N) = T at *
    go_enter Tryz.func27, Tryz.ntmps27
    go_wp2_with fail
    refine HCN.out.mono ?_
    rintro e w1 ⟨rfl, hb1⟩
    have HG1 := Lib.hid hb1
    clear hb1 HCN
    go_wp2_with fail
    clear hmk
    have H0 : Hid (AsRel C N T n fs w1 (.slice (some ⟨w1.heap.size, 0, none⟩) 0 0) (.slice (some ⟨w1.heap.size + 1, 0, none⟩) C C) ((w1.alloc (.cells #[] 81)).alloc (.cells (madeCells #[.int .i64 0] C) 2))) := Lib.hid (by
      have h2 := rdI_start (w1.alloc (.cells #[] 81)) C hC3
      rw [World.size_alloc] at h2
      refine ⟨0, [], some ⟨w1.heap.size + 1, 0, none⟩, C, Nat.zero_le _, by rw [HR0.out, List.length_replicate], Lib.hid ⟨?_, ?_, ?_, ?_⟩⟩
      · exact (OwnW.lit0 w1 _ _).below ((Below.refl _ _).alloc (Nat.le_refl _) _)
      · rw [HR0.out]; exact h2.rd
      · intro _ a e e2
        injection e with e
        subst e
        simp [Value.ownBlock] at e2
      · exact ((Below.refl _ _).alloc (Nat.le_refl _) _).alloc (by simp) _)
    clear HR0
    have hs1 := HG1.out.size
    go_loopw [8, 9] (fun lv rv wr => AsRel C N T n fs w1 lv rv wr) (fun lv rv _ => (match lv with | .slice _ k _ => T - k | _ => 0))
    case atStart => exact H0.out
    case round =>
      obtain ⟨k, cs, A', c', hk, rfl, HI⟩ := hrel
      clear H0
      have hsz := HI.out.below.size
      by_cases hlt : k < T
      · have hra : rowsAt C N T k = rowsOf C N k := by unfold rowsAt; rw [if_pos hlt]
        rw [hra] at HI ⊢
        rw [rowsOf_len]
        have HF := Lib.hid (HFA.out k wr A' c' (Base.Below.nextA HG1.out HI.out.below) HI.out.rows)
        rw [HFC.out k, rowsOf_len] at HF
        obtain ⟨Al, cl, rfl, _⟩ := HI.out.list.form
        have hnn : nextL N (rowsOf C N k) = rowsAt C N T (k + 1) := HNX.out k hlt
        have HNEk := Lib.hid (HNE.out k hlt)
        rw [hnn] at HNEk
        clear hra hnn
        go_wp2_with fail
        refine HF.out.mono ?_
        rintro e w2 ⟨v, rfl, hv, hb2⟩
        obtain ⟨s, A1, k1, c1, A2, k2, c2, fine, fn, fd, nn, dd, rfl, hp⟩ := hv
        have HPU := Lib.hid (fun w3 v' ca t hown hg => HI.out.list.push (w2 := w3) (v' := v') (ca := ca) (t := t) hb2 hp hown hg)
        have HOA := Lib.hid (World.ownsRow.alloc (ownsRow_below HI.out.list.row hb2) (.cells #[.bool s, .slice A1 k1 c1, .slice A2 k2 c2, .bool fine, .int .i64 fn, .int .i64 fd] 81))
        have hb2a : Below wr.heap.size wr (w2.alloc (.cells #[.bool s, .slice A1 k1 c1, .slice A2 k2 c2, .bool fine, .int .i64 fn, .int .i64 fd] 81)) := hb2.alloc hb2.size _
        have HRO := Lib.hid ((HI.out.rows.below hb2a (Nat.le_refl _)).more hb2a.size)
        have HBW := Lib.hid (Base.Below.nextA HI.out.below hb2a)
        have HOR := Lib.hid HI.out.list.row
        have HAP := Lib.hid (HI.out.apart (by rw [rowsOf_len]; exact hC1))
        have hs2 := hb2.size
        have hT256 := hT
        clear hb2 hp HI HF hb2a
        unfold six at HPU
        go_wp2_with (at_builtin; refine wpList_append_own_at _ rfl (.tmp 28) (.tmp 32) 93 rfl w1.heap.size 81 iw (.agg #[.bool false, .slice none 0 0, .slice none 0 0, .bool false, .int .i64 0, .int .i64 0]) 6 80 Tryz.underlying93 wi wz0 wz1 wz2 rfl (by decide) _ _ _ rfl HOA.out ⟨w2.heap.size, 0, none⟩ 1 1 [.bool s, .slice A1 k1 c1, .slice A2 k2 c2, .bool fine, .int .i64 fn, .int .i64 fd] rfl rfl ?p1a ?p2a ?p3a ?p4a ?p5a ?_)
        try case p1a => exact news_six _ _ (by simp)
        try case p2a => exact ones_six
        try case p3a => first | (simp only [maxLen]; omega) | omega
        try case p4a => omega
        try case p5a => first | (simp only [World.size_alloc]; omega) | omega
        intro v' w3 hown' hg' _ he
        have HO3 := Lib.hid (HPU.out w3 v' _ _ hown' hg')
        have hr3 := rdI_kept HRO.out hg' HAP.out
        have HB3 := Lib.hid (HBW.out.trans (grown_below hg' (fun g e => (ownsRow_block HOR.out e).choose_spec.2.1) (HBW.out.size)))
        have HN3 := Lib.hid (HNEk.out w3 A' c' hr3)
        clear hown' hg' he HPU HOA HRO HBW HOR HAP hr3 HNEk
        obtain ⟨Av, cv, rfl, _⟩ := HO3.out.form
        have hs3 := HB3.out.size
        go_wp2_with fail
        refine HN3.out.mono ?_
        rintro e w4 ⟨A5, c5, rfl, ho5, hb5⟩
        have HN4 : Hid (AsI C N T n fs w1 (k + 1) _ (rowsAt C N T (k + 1)) A5 (.slice Av (k + 1) cv) w4) := Lib.hid ⟨HO3.out.below hb5, ho5.rd, fun h0 a e2 e3 => by
          obtain ⟨_, _, _, hlt2⟩ := ownsRow_block HO3.out.row e3
          obtain ⟨A6, c6, e6, hh⟩ := ho5.form
          injection e6 with e7 _ _
          obtain ⟨g6, e8, h8, _⟩ := hh h0
          rw [e7, e8] at e2
          injection e2 with e2
          subst e2
          simp only at hlt2
          omega, Base.Below.nextA HB3.out hb5⟩
        clear ho5 hb5 HN3 HO3 HB3
        go_wp2
        go_roundw
        case rel => exact ⟨k + 1, _, A5, c5, hlt, rfl, HN4⟩
        case measure =>
          show T - (k + 1) < T - k
          omega
      · obtain rfl : k = T := by omega
        have hra : rowsAt C N k k = [] := by unfold rowsAt; rw [if_neg (Nat.lt_irrefl _)]
        rw [hra] at HI ⊢
        obtain ⟨Al, cl, rfl, _⟩ := HI.out.list.form
        have HSU := Lib.hid (sum_any wr (HI.out.list.base (Nat.zero_le _)) (by decide) (by omega) (by omega))
        have HFM : Hid (∀ W, Calls Tryz.prog 68 #[.int .i64 1, .int .i64 (k : Int)] W fun e w' => e = .returned (.agg #[.int .i64 1, .int .i64 (k : Int)]) ∧ Below W.heap.size W w') := Lib.hid fun W => by
          have := fMakeG 1 k (by decide) (by decide) hT1 (by omega) W
          rwa [lowV_even hT1] at this
        have HWO := Lib.hid (fun W => wideOf_any (vf_even hT1 (by omega)) W)
        have HBW := Lib.hid HI.out.below
        clear HI hra HFA HNE HNX HFC HY
        generalize sumR k (farC C N fs n) = S at *
        generalize qf 1 (k : Int) = r at *
        go_wp2_with fail
        refine HSU.out.mono ?_
        rintro e w2 ⟨v, rfl, hv, hb2⟩
        obtain ⟨s, A1, k1, c1, A2, k2, c2, fine, fn, fd, nn, dd, rfl, hp⟩ := hv
        have HP := Lib.hid hp
        have HB2 := Lib.hid (Base.Below.nextA HBW.out hb2)
        clear hp hb2 HSU HBW
        go_wp2_with fail
        refine (HFM.out _).mono ?_
        rintro e w3 ⟨rfl, hb3⟩
        have HP3 := Lib.hid (HP.out.below hb3)
        have HB3 := Lib.hid (Base.Below.nextA HB2.out hb3)
        clear hb3 HFM HP HB2
        go_wp2_with fail
        refine (HWO.out _).mono ?_
        rintro e w4 ⟨v, rfl, hv4, hb4⟩
        have HP4 := HP3.out.below hb4
        have HB4 := Lib.hid (Base.Below.nextA HB3.out hb4)
        have HMU := Lib.hid (wideMul_any w4 ⟨_, _, _, _, _, _, _, _, _, _, _, _, rfl, HP4⟩ hv4 (by omega) (by omega) (by omega) (by omega))
        obtain ⟨s2, B1, j1, d1, B2, j2, d2, fine2, fn2, fd2, nn2, dd2, rfl, _⟩ := hv4
        clear hb4 HP3 HB3 HWO HP4
        go_wp2_with fail
        refine HMU.out.mono ?_
        rintro e w5 ⟨v, rfl, hv5, hb5⟩
        have HB5 := Lib.hid (Base.Below.nextA HB4.out hb5)
        have HGV := Lib.hid (give_any w5 hv5 (by omega))
        unfold Fine.FRet at HGV
        rw [← HP0.out, ← HQQ.out, ← HKK.out] at HGV
        obtain ⟨s3, E1, i1, f1, E2, i2, f2, fine3, fn3, fd3, nn3, dd3, rfl, _⟩ := hv5
        clear hb5 HMU HB4 HP0 HQQ HKK
        go_wp2_with fail
        refine HGV.out.mono ?_
        rintro e w6 ⟨rfl, hb6⟩
        have HW6 := Base.Below.nextA HG1.out (Base.Below.nextA HB5.out hb6)
        have KRq := KR0.out.belowS HW6
        have HBq := Base.Below.nextA HB0.out HW6
        clear hb6 HGV HW6 HB5 HB0 KR0 HG1
        have z0 := (KRq).frz 0
        have z1 := (KRq).frz 1
        have c0 := (KRq).at 0 (v := .int .i64 0) rfl
        have c1 := (KRq).at 1 (v := .int .i64 0) rfl
        have HFIN := Lib.hid (fr_put (P := P) (Q := Q) (ok := ok) (HBq) (Nat.le_refl _))
        have SS := ((KRq).setTo 0 (.int .i64 P) rfl).setTo 1 (.int .i64 Q) rfl
        have s0 := SS.at 0 rfl
        have s1 := SS.at 1 rfl
        clear SS
        go_wp2
        refine bodyPost_ret (v := .tuple #[.agg #[.int .i64 P, .int .i64 Q], .bool ok]) (by simp [results, Tryz.results27, go_sem, s0, s1]) rfl ?_
        exact HFIN.out
end Go.Proofs.YtionognmgcabbaaGreat.Wide
/- Walks in memory; whether one is valid, in plain words. -/
namespace Go.Proofs.YtionognmgcabbaaGreat.WalkM
open Go.RowKit Go.Proofs.YtionognmgcabbaaGreat Go.Proofs.YtionognmgcabbaaGreat.Base Go.Proofs.YtionognmgcabbaaGreat.Mem Go.Proofs.YtionognmgcabbaaGreat.MemF Go.Proofs.YtionognmgcabbaaGreat.ChM
set_option linter.unusedVariables false
/-- n lists of fractions lie behind A, in blocks below B: list i has L i fractions, its numbers are fs i -/
def RdFF (w : World) (B : Nat) (A : Option Addr) (n : Nat) (L : Nat → Nat) (fs : Nat → List Int) : Prop :=
  0 < n → ∃ b off, A = some ⟨b, off, none⟩ ∧ b < B ∧ ∀ i, i < n → ∃ A' c, w.cell? ⟨b, off + i, none⟩ = some (.slice A' (L i) c) ∧ RdF w B A' (L i) (fs i)
theorem RdFF.below {w w' : World} {B C n : Nat} {A : Option Addr} {L : Nat → Nat} {fs : Nat → List Int} (h : RdFF w B A n L fs) (hb : Below C w w') (hBC : B ≤ C) : RdFF w' B A n L fs := fun h0 => by
  obtain ⟨b, off, e, hlt, hc⟩ := h h0
  refine ⟨b, off, e, hlt, fun i hi => ?_⟩
  obtain ⟨A', c, h1, h2⟩ := hc i hi
  exact ⟨A', c, (hb.cell (p := ⟨b, off + i, none⟩) (by show b < C; omega)).trans h1, h2.below hb hBC⟩
theorem RdFF.more {w : World} {B C n : Nat} {A : Option Addr} {L : Nat → Nat} {fs : Nat → List Int} (h : RdFF w B A n L fs) (hBC : B ≤ C) : RdFF w C A n L fs := fun h0 => by
  obtain ⟨b, off, e, hlt, hc⟩ := h h0
  refine ⟨b, off, e, by omega, fun i hi => ?_⟩
  obtain ⟨A', c, h1, h2⟩ := hc i hi
  exact ⟨A', c, h1, h2.more hBC⟩
theorem RdFF.at {w : World} {B n : Nat} {A : Option Addr} {L : Nat → Nat} {fs : Nat → List Int} (h : RdFF w B A n L fs) {i : Nat} (hi : i < n) : ∃ b off A' c, A = some ⟨b, off, none⟩ ∧ b < B ∧ w.cell? ⟨b, off + i, none⟩ = some (.slice A' (L i) c) ∧ RdF w B A' (L i) (fs i) := by
  obtain ⟨b, off, e, hlt, hc⟩ := h (by omega)
  obtain ⟨A', c, h1, h2⟩ := hc i hi
  exact ⟨b, off, A', c, e, hlt, h1, h2⟩
def rowOk (n : Nat) (L : Nat → Nat) (fs : Nat → List Int) (i : Nat) : Bool := decide (L i = n) && chB (fs i) (L i)
/-- a valid walk -/
def wkB (n : Nat) (L : Nat → Nat) (fs : Nat → List Int) : Bool := decide (1 ≤ n ∧ n ≤ 6) && (List.range n).all (rowOk n L fs)
theorem wkB_out {n : Nat} {L : Nat → Nat} {fs : Nat → List Int} (h : ¬ (1 ≤ n ∧ n ≤ 6)) : wkB n L fs = false := by
  unfold wkB; rw [decide_eq_false h]; rfl
theorem wkB_in {n : Nat} {L : Nat → Nat} {fs : Nat → List Int} (h : 1 ≤ n ∧ n ≤ 6) : wkB n L fs = (List.range n).all (rowOk n L fs) := by
  unfold wkB; rw [decide_eq_true h]; rfl
theorem wkB_true {n : Nat} {L : Nat → Nat} {fs : Nat → List Int} (h : wkB n L fs = true) : 1 ≤ n ∧ n ≤ 6 ∧ ∀ i, i < n → L i = n ∧ chB (fs i) n = true := by
  simp only [wkB, Bool.and_eq_true, decide_eq_true_eq] at h
  refine ⟨h.1.1, h.1.2, fun i hi => ?_⟩
  have := all_range.1 h.2 i hi
  simp only [rowOk, Bool.and_eq_true, decide_eq_true_eq] at this
  exact ⟨this.1, by rw [← this.1]; exact (by have h2 := this.2; rw [this.1] at h2 ⊢; exact h2)⟩
end Go.Proofs.YtionognmgcabbaaGreat.WalkM
/- The laws' sizes and copies of lists of fractions. -/
namespace Go.Proofs.YtionognmgcabbaaGreat.CpyF
open Go.RowKit Go.Proofs.YtionognmgcabbaaGreat Go.Proofs.YtionognmgcabbaaGreat.Base Go.Proofs.YtionognmgcabbaaGreat.Mem Go.Proofs.YtionognmgcabbaaGreat.Cpy Go.Proofs.YtionognmgcabbaaGreat.MemF Go.Proofs.YtionognmgcabbaaGreat.WalkM
set_option linter.unusedVariables false
theorem szF_any (A : Option Addr) (n c : Nat) (k : Int) (w : World) (hn : n ≤ 9223372036854775807) (hk : 0 ≤ k) (hk2 : k ≤ 1048576) :
    Calls Tryz.prog 12 #[.slice A n c, .int .i64 k] w fun e w' => ∃ r : Int, e = .returned (.int .i64 r) ∧ (r = -1 ∨ (0 ≤ r ∧ r = k - n)) ∧ w = w' := by
  by_cases h0 : k - (n : Int) < 0
  · go_enter Tryz.func12, Tryz.ntmps12
    go_wp2
    go_ret
    exact ⟨-1, rfl, .inl rfl, rfl⟩
  · go_enter Tryz.func12, Tryz.ntmps12
    go_wp2
    go_ret
    exact ⟨k - n, rfl, .inr ⟨by omega, rfl⟩, rfl⟩
/-! ### Fractions that are copied -/
theorem toFr_any (a b : Int) (w : World) : Calls Tryz.prog 38 #[.agg #[.int .i64 a, .int .i64 b]] w fun e w' => e = .returned (.agg #[.int .i64 a, .int .i64 b]) ∧ Below w.heap.size w w' := by
  go_enter Tryz.func38, Tryz.ntmps38
  go_wp2
  exact bodyPost_ret (v := .agg #[.int .i64 a, .int .i64 b]) (by simp [results, Tryz.results38, go_sem]) rfl ⟨rfl, (((Below.refl _ _).alloc (Nat.le_refl _) _).alloc (by simp) _).alloc (by simp; omega) _⟩
theorem set2_half {fs : List Int} {n j : Nat} (hl : fs.length = 2 * n) (hj : j < n) (t : Nat) (ht : t < 2) :
    (ints (fs.take (2 * j + t) ++ List.replicate (2 * n - (2 * j + t)) 0)).set (2 * j + t) (.int .i64 (fs.getD (2 * j + t) 0)) = ints (fs.take (2 * j + t + 1) ++ List.replicate (2 * n - (2 * j + t + 1)) 0) := by
  have hlt : 2 * j + t < fs.length := by omega
  rw [ints_set, List.set_append_right _ _ (by rw [List.length_take]; omega), List.length_take, Nat.min_eq_left (by omega), Nat.sub_self,
    show 2 * n - (2 * j + t) = (2 * n - (2 * j + t + 1)) + 1 by omega, List.replicate_succ, List.set_cons_zero, List.take_succ_eq_append_getElem hlt, List.append_assoc]
  simp [List.getD, hlt]
def HalfF (wr : World) (B g n j : Nat) (fs : List Int) : Prop := wr.ownsRow B 43 2 (.slice (some ⟨g, 0, none⟩) n n) n (ints (fs.take (2 * j) ++ List.replicate (2 * n - 2 * j) 0))
theorem halfF_store {wr : World} {B g n j t : Nat} {fs : List Int} (h : wr.ownsRow B 43 2 (.slice (some ⟨g, 0, none⟩) n n) n (ints (fs.take (2 * j + t) ++ List.replicate (2 * n - (2 * j + t)) 0))) (hl : fs.length = 2 * n) (hj : j < n) (ht : t < 2) :
    (wr.setCell ⟨g, 2 * j + t, none⟩ (.int .i64 (fs.getD (2 * j + t) 0))).ownsRow B 43 2 (.slice (some ⟨g, 0, none⟩) n n) n (ints (fs.take (2 * j + t + 1) ++ List.replicate (2 * n - (2 * j + t + 1)) 0)) := by
  obtain ⟨h1, h2⟩ := h.stored (2 * j + t) (.int .i64 (fs.getD (2 * j + t) 0))
  rw [set2_half hl hj t ht] at h1
  exact h1
theorem halfF_next {wr : World} {B g n j : Nat} {fs : List Int} (h : HalfF wr B g n j fs) (hl : fs.length = 2 * n) (hj : j < n) : HalfF ((wr.setCell ⟨g, j * 2, none⟩ (.int .i64 (fs.getD (2 * j) 0))).setCell ⟨g, j * 2 + 1, none⟩ (.int .i64 (fs.getD (2 * j + 1) 0))) B g n (j + 1) fs := by
  have h1 := halfF_store (t := 0) h hl hj (by decide)
  have h2 := halfF_store (t := 1) h1 hl hj (by decide)
  unfold HalfF
  rw [Nat.mul_comm j 2]
  exact h2
def ToRelF (B g n : Nat) (fs : List Int) (w : World) (i : Value) (wr : World) : Prop := ∃ j : Nat, j ≤ n ∧ i = .int .i64 (j : Int) ∧ Hid (HalfF wr B g n j fs) ∧ Hid (Below B w wr)
def zero2 : Array Value := #[.int .i64 0, .int .i64 0]
theorem zero2_at : ∀ m, m < 2 → zero2[m]! = .int .i64 0
  | 0, _ => rfl
  | 1, _ => rfl
  | n + 2, h => absurd h (by omega)
theorem made2 (n : Nat) : (madeCells zero2 (n * 2)).toList = ints (List.replicate (2 * n) 0) := by
  apply List.ext_getElem?
  intro j
  rw [Nat.mul_comm n 2]
  by_cases hj : j < 2 * n
  · have h1 := zero2_at (j % 2) (Nat.mod_lt _ (by decide))
    have h2 : zero2.size = 2 := rfl
    simp [madeCells, ints, hj, h2, h1]
  · simp [madeCells, ints, hj]
theorem run_make2 (n : Nat) (hn : n ≤ 1048576) (w : World) : (Instr.makeSlice 28 (.int .i64 (n : Int)) (.int .i64 (n : Int))).run Tryz.prog w = .ok (.slice (some ⟨w.heap.size, 0, none⟩) n n) (w.alloc (.cells (madeCells zero2 (n * 2)) 43)) := by
  obtain ⟨i, hi, hzz⟩ := Option.map_eq_some_iff.1 infoFr
  simp only [Prod.mk.injEq] at hzz
  obtain ⟨hz, hs, hb⟩ := hzz
  have hr := run_make (P := Tryz.prog) w 28 43 i _ Tryz.underlying28 hi hz .i64 .i64 n n (by omega) (Int.le_refl _) (by rw [hb]; omega) (by omega)
  simp only [Int.toNat_natCast, hs] at hr
  exact hr
theorem halfF_start (w : World) (n : Nat) (hn : n ≤ 1048576) (fs : List Int) : HalfF (w.alloc (.cells (madeCells zero2 (n * 2)) 43)) w.heap.size w.heap.size n 0 fs := by
  have := World.ownsRow_lit (e := 43) (size := 2) (base := w.heap.size) w (madeCells zero2 (n * 2)) n (Nat.le_refl _) (by simp [maxLen]; omega) (by rw [size_madeCells])
  rw [made2] at this
  unfold HalfF
  simpa using this
set_option maxHeartbeats 1000000 in
set_option maxRecDepth 100000 in
theorem toF_any (A : Option Addr) (c B0 n : Nat) (fs : List Int) (w : World) (hx : RdF w B0 A n fs) (hB : B0 ≤ w.heap.size) (hn : n ≤ 1048576) (hl : fs.length = 2 * n) :
    Calls Tryz.prog 15 #[.slice A n c] w fun e w' => ∃ g, e = .returned (.slice (some ⟨g, 0, none⟩) n n) ∧ OwnF w' w.heap.size (.slice (some ⟨g, 0, none⟩) n n) n fs ∧ Below w.heap.size w w' := by
  have HX := Lib.hid (hx.more hB)
  have HL := Lib.hid hl
  have hmk := fun w => run_make2 n hn w
  have H0 : Hid (ToRelF w.heap.size w.heap.size n fs w (.int .i64 0) (w.alloc (.cells (madeCells zero2 (n * 2)) 43))) := Lib.hid ⟨0, Nat.zero_le _, rfl, Lib.hid (halfF_start w n hn fs), Lib.hid ((Below.refl _ _).alloc (Nat.le_refl _) _)⟩
  clear hx hl
  go_enter Tryz.func15, Tryz.ntmps15
  go_wp2
  clear hmk
  go_loopw [4] (fun i wr => ToRelF w.heap.size w.heap.size n fs w i wr) (fun i _ => n - (intOf i).toNat)
  case atStart => exact H0.out
  case round =>
    obtain ⟨j, hj, rfl, hrow, hb⟩ := hrel
    by_cases hlt : j < n
    · obtain ⟨b, off, rfl, hbl, c0, c1⟩ := (HX.out.below hb.out (Nat.le_refl _)).at hlt
      have hcell : ∀ i, i < 2 → ∃ x : Int, wr.cell? ⟨w.heap.size, j * 2 + i, none⟩ = some (.int .i64 x) := fun i hi => by
        have hh : wr.ownsRow w.heap.size 43 2 (.slice (some ⟨w.heap.size, 0, none⟩) n n) n (ints (fs.take (2 * j) ++ List.replicate (2 * n - 2 * j) 0)) := hrow.out
        have e1 := World.ownsRow.cellAt hh (j * 2 + i) (by omega)
        rw [ints_get _ (j * 2 + i) (by have := HL.out; simp; omega)] at e1
        exact ⟨_, e1⟩
      have hfz : ∀ i, wr.frozen? ⟨w.heap.size, i, none⟩ = false := fun i => by
        have hh : wr.ownsRow w.heap.size 43 2 (.slice (some ⟨w.heap.size, 0, none⟩) n n) n (ints (fs.take (2 * j) ++ List.replicate (2 * n - 2 * j) 0)) := hrow.out
        exact hh.frozenAt i
      have HN := Lib.hid (fun w1 (h1 : Below wr.heap.size wr w1) => (show ToRelF w.heap.size w.heap.size n fs w (.int .i64 ((j : Int) + 1)) ((w1.setCell ⟨w.heap.size, j * 2, none⟩ (.int .i64 (fs.getD (2 * j) 0))).setCell ⟨w.heap.size, j * 2 + 1, none⟩ (.int .i64 (fs.getD (2 * j + 1) 0))) from ⟨j + 1, hlt, by simp, Lib.hid (halfF_next (show HalfF w1 w.heap.size w.heap.size n j fs from ownsRow_below hrow.out h1) HL.out hlt), Lib.hid (((hb.out.trans (h1.mono hb.out.size)).setCell (p := ⟨w.heap.size, j * 2, none⟩) (Nat.le_refl _) _).setCell (p := ⟨w.heap.size, j * 2 + 1, none⟩) (Nat.le_refl _) _)⟩))
      have HT := Lib.hid (fun W => toFr_any (fs.getD (2 * j) 0) (fs.getD (2 * j + 1) 0) W)
      obtain ⟨x0, y0⟩ := hcell 0 (by decide)
      have hlz : w.heap.size < wr.heap.size := block_lt_of_cell y0
      obtain ⟨x1, y1⟩ := hcell 1 (by decide)
      rw [Nat.add_zero] at y0
      have HY := Lib.hid (And.intro y0 y1)
      have HZ := Lib.hid hfz
      clear hrow hb hcell hfz y0 y1
      generalize fs.getD (2 * j) 0 = f0 at *
      generalize fs.getD (2 * j + 1) 0 = f1 at *
      go_wp2_with fail
      refine (HT.out _).mono ?_
      rintro e w1 ⟨rfl, hb1⟩
      have y0 := (hb1.cell (p := ⟨w.heap.size, j * 2, none⟩) hlz).trans HY.out.1
      have y1 := (hb1.cell (p := ⟨w.heap.size, j * 2 + 1, none⟩) hlz).trans HY.out.2
      have z0 := (hb1.frozen (p := ⟨w.heap.size, j * 2, none⟩) hlz).trans (HZ.out _)
      have z1 := (hb1.frozen (p := ⟨w.heap.size, j * 2 + 1, none⟩) hlz).trans (HZ.out _)
      have HM := Lib.hid (HN.out w1 hb1)
      clear hb1 c0 c1
      go_wp2
      go_roundw
      case rel => exact HM.out
      case measure => simp [intOf]; omega
    · obtain rfl : j = n := by omega
      have HR : Hid (OwnF wr w.heap.size (.slice (some ⟨w.heap.size, 0, none⟩) j j) j fs) := Lib.hid (by
        have := hrow.out
        unfold HalfF at this
        rw [Nat.sub_self, List.replicate_zero, List.append_nil, List.take_of_length_le (by have := HL.out; omega)] at this
        exact this)
      have HB := Lib.hid hb.out
      clear hrow hb
      go_wp2
      go_ret
      exact ⟨w.heap.size, rfl, HR.out, HB.out⟩
end Go.Proofs.YtionognmgcabbaaGreat.CpyF
/- Openers for lists of fractions, and for walks. -/
namespace Go.Proofs.YtionognmgcabbaaGreat.Open
open Go.ChangeShapes Go.WideShapes Go.ChangeAt Go.RowKit Go.Joins Go.Proofs.YtionognmgcabbaaGreat
set_option linter.unusedVariables false
set_option maxRecDepth 100000
section
variable {H : Type} {enc : TypeId × Value → H} {w : World} {base b0 : Nat} {spare : Nat → Bool} {held : Bool} {v : Value} {d : DataW H} {p : List MemPlace}
theorem cellsFi : Tryz.prog.cellsOf 2 = 1 := by kernel_rfl
theorem cellsFr : Tryz.prog.cellsOf 59 = 2 := by kernel_rfl
theorem frac_cells {n : Nat} {cs : List Value} {x : DataW H × List MemPlace} (h : DataW.trod enc Tryz.prog w base spare held n 59 cs = some x) : ∃ a b : Int, cs = [.int .i64 a, .int .i64 b] := by
  obtain ⟨xs, n', _, _, hl, hlen, hg⟩ := DataW.trod_struct Tryz.underlying59 h
  obtain ⟨a, e0⟩ := field_int hlen hg 0 _ rfl rfl
  obtain ⟨b, e1⟩ := field_int hlen hg 1 _ rfl rfl
  rw [cellsFr] at hl
  match cs, hl with
  | [c0, c1], _ =>
    simp [cellsFi] at e0 e1
    exact ⟨a, b, by rw [e0, e1]⟩
/-- a list of fractions -/
structure IsFracs (w : World) (v : Value) : Prop where
  ex : ∃ (A : Option Addr) (n c : Nat) (fs : List Int), v = .slice A n c ∧ n ≤ 9223372036854775807 ∧ fs.length = 2 * n ∧ MemF.RdF w w.heap.size A n fs
theorem fracs_of {fuel : Nat} {c0 : Value} {y : DataW H × List MemPlace} (hf : DataW.trod enc Tryz.prog w base (fun _ => true) held fuel 25 [c0] = some y) : IsFracs w c0 := by
  rcases Go.Deep.open_slice Tryz.underlying25 hf with ⟨hcs, _⟩ | ⟨x, len, cap, m, n, D, Pl, hcs, _, hl, hm, hmm, _, hx⟩
  · simp at hcs
    subst hcs
    exact ⟨none, 0, 0, [], rfl, by decide, rfl, fun h => absurd h (by simp)⟩
  · simp at hcs
    subst hcs
    simp only [if_true] at hmm
    unfold maxLen at hm
    have hs2 : 0 < m → x.spot = none := fun h0 => by
      obtain ⟨cs', h1, h2⟩ := hx 0 h0
      rw [cellsFr] at h1
      obtain ⟨a, b, rfl⟩ := frac_cells h2
      have h3 := (World.cells?_some h1).2.2 0 (by decide)
      have e : (x.add (0 * 2)).add 0 = x := by simp [Addr.add]
      rw [e] at h3
      exact World.cell?_spot h3
    have each : ∀ i, i < m → ∃ l : List Int, l.length = 2 ∧ ∀ j, j < 2 → w.cell? (x.add (i * 2 + j)) = some (.int .i64 (l.getD j 0)) := fun i hi => by
      obtain ⟨cs', h1, h2⟩ := hx i hi
      rw [cellsFr] at h1
      obtain ⟨a, b, rfl⟩ := frac_cells h2
      obtain ⟨_, _, h3⟩ := World.cells?_some h1
      refine ⟨[a, b], rfl, fun j hj => ?_⟩
      have hs2 := hs2 (by omega)
      have h4 := h3 j hj
      rw [addr_add hs2] at h4
      rw [addr_add (a := ⟨x.block, x.off + i * 2, none⟩) rfl] at h4
      rw [addr_add hs2, ← Nat.add_assoc, h4]
      match j, hj with
      | 0, _ => rfl
      | 1, _ => rfl
      | j + 2, hj => exact absurd hj (by omega)
    obtain ⟨L, hL⟩ := Go.Deep.choose_lt each
    have hlen : ((List.range (2 * len)).map fun k => (L (k / 2)).getD (k % 2) 0).length = 2 * len := by simp
    refine ⟨some x, len, cap, (List.range (2 * len)).map fun k => (L (k / 2)).getD (k % 2) 0, rfl, by omega, hlen, fun h0 => ?_⟩
    have h00 := (hL 0 (by omega)).2 0 (by decide)
    rw [Nat.zero_mul, Nat.zero_add] at h00
    obtain ⟨hs, hb⟩ := spot_of h00
    refine ⟨x.block, x.off, by cases x; simp_all, hb, fun i hi => ?_⟩
    have h5 := (hL (i / 2) (by omega)).2 (i % 2) (Nat.mod_lt _ (by decide))
    rw [Nat.mul_comm, Nat.div_add_mod] at h5
    rw [← addr_add hs, h5]
    simp [List.getD, hi]
theorem fracs (hv : Value.okWide Tryz.prog w .any b0 25 v) (h : DataW.Trod enc Tryz.prog w base (fun _ => true) held 25 v d p) : IsFracs w v := by
  obtain ⟨a, len, cap, rfl⟩ := okWide_slice Tryz.underlying25 hv
  obtain ⟨fuel, hf⟩ := h
  exact fracs_of (by simpa [Value.cells] using hf)
end
end Go.Proofs.YtionognmgcabbaaGreat.Open
/- AverageDistance: the law. -/
namespace Go.Proofs.YtionognmgcabbaaGreat.AvgL
open Go.RowKit Go.Proofs.YtionognmgcabbaaGreat Go.Proofs.YtionognmgcabbaaGreat.Base Go.Proofs.YtionognmgcabbaaGreat.Mem Go.Proofs.YtionognmgcabbaaGreat.MemF Go.Proofs.YtionognmgcabbaaGreat.ChM Go.Proofs.YtionognmgcabbaaGreat.GiveM Go.Proofs.YtionognmgcabbaaGreat.ExtM Go.Proofs.YtionognmgcabbaaGreat.Ratio Go.Proofs.YtionognmgcabbaaGreat.Wide Go.Proofs.YtionognmgcabbaaGreat.Cpy Go.Proofs.YtionognmgcabbaaGreat.RatM Go.Proofs.YtionognmgcabbaaGreat.Blk
set_option linter.unusedVariables false
set_option maxHeartbeats 4000000 in
set_option maxRecDepth 100000 in
theorem exactAvg_any (A1 : Option Addr) (c1 : Nat) (t : Int) (n : Nat) (fs : List Int) (w : World) (hl1 : n ≤ 9223372036854775807) (hf1 : fs.length = 2 * n) (hx1 : MemF.RdF w w.heap.size A1 n fs) :
    Calls Tryz.prog 5 #[.int .i64 t, .slice A1 n c1] w fun e w' => e = .returned (.bool true) ∧ Below w.heap.size w w' := by
  have HX1 := Lib.hid hx1
  have HSZ1 := Lib.hid (fun k W hk hk2 => CpyF.szF_any A1 n c1 k W hl1 hk hk2)
  have HF1 := Lib.hid hf1
  clear hx1 hf1
  go_enter Tryz.func5, Tryz.ntmps5
  go_wp2_with fail
  refine (HSZ1.out 1048576 w (by omega) (by omega)).mono ?_
  rintro e w' ⟨r1, rfl, hr1, rfl⟩
  rcases hr1 with rfl | ⟨hr1a, hr1b⟩
  · go_wp2
    go_ret
    exact ⟨rfl, Below.refl _ _⟩
  have hb1 : n ≤ 1048576 := by omega
  clear hr1b
  have CT1 := Lib.hid (fun (W : World) (hW : Below w.heap.size w W) => CpyF.toF_any A1 c1 w.heap.size n fs W (HX1.out.below hW (Nat.le_refl _)) hW.size hb1 HF1.out)
  have HS := Lib.hid (fun (A : Option Addr) (c B : Nat) (W : World) (hx : MemF.RdF W B A n fs) (hB : B ≤ W.heap.size) => specAvg_any (c := c) t W hx hB hb1)
  have HI := Lib.hid (fun (A : Option Addr) (c B : Nat) (W : World) (hx : MemF.RdF W B A n fs) (hB : B ≤ W.heap.size) => implAvg_any (c := c) t W hx hB hb1)
  generalize avP t fs n = P at *
  generalize avD t fs n = Q at *
  generalize avB t fs n = ok at *
  have hok : (ok != ok) = false := by simp
  go_wp2_with fail
  refine (CT1.out _ (Below.refl _ _)).mono ?_
  rintro e w1 ⟨g_t1, rfl, o_t1, b_w1⟩
  have B_w1 := Lib.hid (b_w1)
  have hs_w1 := (b_w1).size
  have t1 := Lib.hid o_t1
  clear b_w1 o_t1
  go_wp2_with fail
  refine (HS.out _ _ w1.heap.size w1 t1.out.rd (Nat.le_refl _)).mono ?_
  rintro e w2 ⟨rfl, b_w2⟩
  have B_w2 := Lib.hid (Base.Below.nextA B_w1.out b_w2)
  have hs_w2 := (b_w2).size
  clear b_w2
  obtain ⟨w3, hw3⟩ : ∃ V, V = w2.alloc (.cells #[.int .i64 P, .int .i64 Q] 43) := ⟨_, rfl⟩
  have y_w3 : Below w2.heap.size w2 w3 := by rw [hw3]; exact (Below.refl _ _).alloc (Nat.le_refl _) _
  have K_s : Hid (Blk.Blk w3 w2.heap.size 43 #[.int .i64 P, .int .i64 Q]) := Lib.hid (by rw [hw3]; exact Blk.Blk.new _ _ _)
  have HV_w3 := Lib.hid hw3
  have B_w3 := Lib.hid (Base.Below.nextA B_w2.out y_w3)
  have hs_w3 := (y_w3).size
  clear hw3 y_w3
  go_wp2_with fail
  rw [← HV_w3.out]
  refine (CT1.out _ B_w3.out).mono ?_
  rintro e w4 ⟨g_x1, rfl, o_x1, b_w4⟩
  have B_w4 := Lib.hid (Base.Below.nextA B_w3.out b_w4)
  have K_s_w4 := Lib.hid (K_s.out.belowS b_w4)
  have hs_w4 := (b_w4).size
  have x1 := Lib.hid o_x1
  clear b_w4 o_x1
  go_wp2_with fail
  refine (HI.out _ _ w4.heap.size w4 x1.out.rd (Nat.le_refl _)).mono ?_
  rintro e w5 ⟨rfl, b_w5⟩
  have B_w5 := Lib.hid (Base.Below.nextA B_w4.out b_w5)
  have K_s_w5 := Lib.hid (K_s_w4.out.belowS b_w5)
  have x1_w5 := Lib.hid (x1.out.below b_w5)
  have hs_w5 := (b_w5).size
  clear b_w5
  have d0 := K_s_w5.out.at 0 (v := .int .i64 P) rfl
  have d1 := K_s_w5.out.at 1 (v := .int .i64 Q) rfl
  have hlt_w5 := K_s_w5.out.lt
  go_wp2_with fail
  refine (MemF.eqFraction_yes P Q _).mono ?_
  rintro e w6 ⟨rfl, x_w6⟩
  have x2_w6 := Base.Below.boxed x_w6
  have B_w6 := Lib.hid (Base.Below.nextA B_w5.out x2_w6)
  have K_s_w6 := Lib.hid (K_s_w5.out.belowS x2_w6)
  have x1_w6 := Lib.hid (x1_w5.out.below x2_w6)
  have hs_w6 := (x2_w6).size
  clear x_w6 x2_w6 d0 d1
  go_wp2_with fail
  refine (CT1.out _ B_w6.out).mono ?_
  rintro e w7 ⟨g_u1, rfl, o_u1, b_w7⟩
  have B_w7 := Lib.hid (Base.Below.nextA B_w6.out b_w7)
  have x1_w7 := Lib.hid (x1_w6.out.below b_w7)
  have hs_w7 := (b_w7).size
  have u1 := Lib.hid o_u1
  clear b_w7 o_u1
  go_wp2_with fail
  refine (MemF.eqF_yes _ _ _ _ _ _ n fs w7 x1_w7.out.rd u1.out.rd (by omega) (by omega) (by omega)).mono ?_
  rintro e w8 ⟨rfl, x_w8⟩
  have B_w8 := Lib.hid (Base.Below.nextA B_w7.out x_w8)
  have x1_w8 := Lib.hid (x1_w7.out.below x_w8)
  have hs_w8 := (x_w8).size
  clear x_w8
  go_wp2
  go_ret
  exact ⟨rfl, B_w8.out⟩
theorem exactAvg_v {w : World} {v : Value} (t : Int) (h' : Open.IsFracs w v) : Calls Tryz.prog 5 #[.int .i64 t, v] w fun e w' => e = .returned (.bool true) ∧ Below w.heap.size w w' := by
  obtain ⟨A', n, c', fs, rfl, hn, hf, hy⟩ := h'.ex
  exact exactAvg_any A' c' t n fs w hn hf hy
end Go.Proofs.YtionognmgcabbaaGreat.AvgL
/- The row's last step where the world behind the call is known by 'Below' alone: the arguments read as they read before, whatever their types. -/
namespace Go.Proofs.YtionognmgcabbaaGreat.Frame
open Go.RowKit Go.WideShapes Go.ChangeShapes Go.Joins
set_option linter.unusedVariables false
theorem laidOut : laidOutB Tryz.prog = true := by kernel_rfl
theorem own : ownKnob Tryz.prog.godebug = none := by kernel_rfl
section
variable {H : Type} {enc : TypeId × Value → H} {P : Program}
theorem trodAll_below (hl : laidOutB P = true) {W W' : World} (hb : Below W.heap.size W W') :
    ∀ {ts : List TypeId} {vs : List Value} {ds : List (DataW H)} {ps : List MemPlace}, (ts.all fun t => P.readableRec t && decide (t < P.types.size)) = true →
      DataW.TrodAll enc P W 0 (fun _ => true) true ts vs ds ps → (∀ x ∈ ps, x.block < W.heap.size) → DataW.TrodAll enc P W' 0 (fun b => decide (b < W.heap.size)) true ts vs ds ps
  | [], vs, ds, ps, _, h, _ => by
    obtain ⟨rfl, rfl, rfl⟩ := trodAll_nil h
    exact trodAll_mk0
  | t :: ts, vs, ds, ps, hr, h, hlt => by
    simp only [List.all_cons, Bool.and_eq_true, decide_eq_true_eq] at hr
    obtain ⟨v, vs', d, ds', p, q, rfl, rfl, rfl, h0, h1⟩ := trodAll_cons h
    exact trodAll_cons_mk (Below.trod hl hr.1.1 hr.1.2 h0 hb fun x hx => hlt x (List.mem_append.2 (.inl hx))) (trodAll_below hl hb hr.2 h1 fun x hx => hlt x (List.mem_append.2 (.inr hx)))
theorem post_below {f : Func} {s : ChangeSpec} {apart fresh handsOn : Bool} {W W' : World} {args : Array Value} {v : Value} {ds : List (DataW H)} {before : List MemPlace}
    (hvars0 : s.vars = []) (hl : laidOutB P = true) (hr : (f.params.toList.all fun t => P.readableRec t && decide (t < P.types.size)) = true)
    (hW : DataW.Whole enc P f.params.toList s.vars apart W args.toList ds [] before)
    (hA : DataW.TrodAll enc P W 0 (fun _ => true) true f.params.toList args.toList ds before)
    (hargs : (s.fn H (ds ++ [])).args = ds) (hvars : (s.fn H (ds ++ [])).vars = [])
    (hres : ∀ (b : Nat) (sp : Nat → Bool) (hd : Bool), DataW.TrodAll enc P W' b sp hd f.resultTypes.toList (v.resultList f.resultTypes.size) (s.fn H (ds ++ [])).results [])
    (hb : Below W.heap.size W W') : s.post enc P f apart fresh handsOn false W args v W' := by
  have hlt : ∀ p ∈ before, p.block < W.heap.size := fun p hp => hW.lt p hp
  have hA' := trodAll_below (enc := enc) hl hb hr hA hlt
  refine ⟨ds, [], before, [], before, [], hW, hres _ _ _, ?_, ?_, World.keptBut_mono (fun p hp => ⟨hp, ?_⟩) (hb.frame (· ∈ before)), fun h => by cases h⟩
  · rw [hargs]; exact hA'
  · rw [hvars, hvars0]; exact rfl
  · right; simpa using hp
end
end Go.Proofs.YtionognmgcabbaaGreat.Frame

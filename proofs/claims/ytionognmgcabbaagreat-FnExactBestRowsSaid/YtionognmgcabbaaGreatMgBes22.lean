/- The reference: the best rows. -/
import Derived.Test.YtionognmgcabbaaGreatMgBes13
import Derived.Test.YtionognmgcabbaaGreatMgBes21
import Derived.Test.YtionognmgcabbaaGreatMgBes19
import Derived.OneCell
import Derived.Test.YtionognmgcabbaaGreatMgBes08
import Derived.Test.YtionognmgcabbaaGreatMgBes06
import Derived.Test.YtionognmgcabbaaGreatMgBes01
import Derived.Deep.Slices
import Derived.Test.YtionognmgcabbaaGreatRows
import Derived.Below
import Derived.ChangeSame
import Derived.Carry
import Derived.OpenShut
import Derived.Lib.SmallJoins
namespace Go.Proofs.YtionognmgcabbaaGreat.Wide
open Go.RowKit Go.Proofs.YtionognmgcabbaaGreat Go.Proofs.YtionognmgcabbaaGreat.Base Go.Proofs.YtionognmgcabbaaGreat.Mem Go.Proofs.YtionognmgcabbaaGreat.MemF Go.Proofs.YtionognmgcabbaaGreat.ChM Go.Proofs.YtionognmgcabbaaGreat.GaussM Go.Proofs.YtionognmgcabbaaGreat.GiveM Go.Proofs.YtionognmgcabbaaGreat.Ratio Go.Proofs.YtionognmgcabbaaGreat.NextM Go.Proofs.YtionognmgcabbaaGreat.NextS Go.Proofs.YtionognmgcabbaaGreat.Blk Go.Proofs.YtionognmgcabbaaGreat.RatM Go.Proofs.YtionognmgcabbaaGreat.Fine
set_option linter.unusedVariables false
theorem cmpW_lt {q r : Rat} (h : q < r) : cmpW q r = -1 := by
  unfold cmpW
  rw [if_neg (fun e => by rw [e] at h; exact (Rat.lt_irrefl h)), if_pos h]
theorem cmpW_ge {q r : Rat} (h : ¬ q < r) : ∃ z : Nat, cmpW q r = (z : Int) ∧ z ≤ 1 := by
  unfold cmpW
  by_cases e : q = r
  · rw [if_pos e]; exact ⟨0, rfl, by omega⟩
  · rw [if_neg e, if_neg h]; exact ⟨1, rfl, by omega⟩
theorem left_at {C N T k c B : Nat} {A : Option Addr} {w : World} (hd : k < T → dec N (rowsOf C N k) = k) (hC : 1 ≤ C) (hk : k ≤ T) (h : RdI w B A (rowsAt C N T k)) : leftC N T w (.slice A (rowsAt C N T k).length c) = T - k := by
  unfold leftC
  rw [readL_of h rfl]
  by_cases hlt : k < T
  · have e : rowsAt C N T k = rowsOf C N k := by unfold rowsAt; rw [if_pos hlt]
    rw [e, rowsOf_len, if_neg (by omega), hd hlt]
  · have e : rowsAt C N T k = [] := by unfold rowsAt; rw [if_neg hlt]
    rw [e]
    simp
    omega
/-- what is known as the lists of rows are taken -/
structure BtI (C N T n : Nat) (fs : List Int) (w : World) (g k : Nat) (Ab : Option Addr) (cb : Nat) (L : List Int) (A' : Option Addr) (c' : Nat) (v0 v1 v2 v3 v4 v5 : Value) (wr : World) : Prop where
  best : OwnI wr w.heap.size (.slice Ab C cb) (rowsOf C N (bst (farC C N fs n) k))
  bne : ∀ a, Ab = some a → a.block ≠ g
  rows : OwnI wr w.heap.size (.slice A' L.length c') L
  rne : 0 < L.length → ∀ a, A' = some a → a.block ≠ g
  box : Blk wr g 81 #[v0, v1, v2, v3, v4, v5]
  least : IsW wr (farC C N fs n (bst (farC C N fs n) k)) 468 (.agg #[v0, v1, v2, v3, v4, v5])
  below : Below w.heap.size w wr
theorem BtI.mono {C N T n : Nat} {fs : List Int} {w : World} {g k : Nat} {Ab : Option Addr} {cb : Nat} {L : List Int} {A' : Option Addr} {c' : Nat} {v0 v1 v2 v3 v4 v5 : Value} {wr w' : World} (h : BtI C N T n fs w g k Ab cb L A' c' v0 v1 v2 v3 v4 v5 wr) (hb : Below wr.heap.size wr w') : BtI C N T n fs w g k Ab cb L A' c' v0 v1 v2 v3 v4 v5 w' :=
  ⟨h.best.below hb, h.bne, h.rows.below hb, h.rne, h.box.belowS hb, h.least.below hb, Base.Below.nextA h.below hb⟩
/-- the rows are taken as the best ones -/
theorem BtI.take {C N T n : Nat} {fs : List Int} {w : World} {g k : Nat} {Ab : Option Addr} {cb : Nat} {A' : Option Addr} {c' : Nat} {v0 v1 v2 v3 v4 v5 : Value} {wr : World} (h : BtI C N T n fs w g k Ab cb (rowsOf C N k) A' c' v0 v1 v2 v3 v4 v5 wr) (hC : 1 ≤ C) (hg : w.heap.size ≤ g)
    (u0 u1 u2 u3 u4 u5 : Value) : OwnI (put6 wr g u0 u1 u2 u3 u4 u5) w.heap.size (.slice A' C c') (rowsOf C N k) ∧ Blk (put6 wr g u0 u1 u2 u3 u4 u5) g 81 #[u0, u1, u2, u3, u4, u5] ∧ Below w.heap.size w (put6 wr g u0 u1 u2 u3 u4 u5) ∧ ∀ a, A' = some a → a.block ≠ g := by
  have ho := h.rows
  rw [rowsOf_len] at ho
  have hr := h.rne (by rw [rowsOf_len]; exact hC)
  obtain ⟨A1, c1, e1, hh⟩ := ho.form
  injection e1 with e2 _ _
  obtain ⟨g1, e3, _⟩ := hh (by rw [rowsOf_len]; exact hC)
  rw [← e2] at e3
  have hne : (Value.slice A' C c').ownBlock ≠ some g := by
    rw [e3]
    intro e
    have := hr _ e3
    simp [Value.ownBlock] at e
    exact this e
  refine ⟨?_, put6_blk h.box _ _ _ _ _ _, put6_below h.below hg _ _ _ _ _ _, hr⟩
  unfold put6
  have a0 := ownsRow_setCell_other ho (a := ⟨g, 0, none⟩) hne u0
  have a1 := ownsRow_setCell_other a0 (a := ⟨g, 1, none⟩) hne u1
  have a2 := ownsRow_setCell_other a1 (a := ⟨g, 2, none⟩) hne u2
  have a3 := ownsRow_setCell_other a2 (a := ⟨g, 3, none⟩) hne u3
  have a4 := ownsRow_setCell_other a3 (a := ⟨g, 4, none⟩) hne u4
  exact ownsRow_setCell_other a4 (a := ⟨g, 5, none⟩) hne u5
def BtRel (C N T n : Nat) (fs : List Int) (w : World) (g : Nat) (bv rv : Value) (wr : World) : Prop :=
  ∃ (k : Nat) (Ab : Option Addr) (cb : Nat) (A' : Option Addr) (c' : Nat) (v0 v1 v2 v3 v4 v5 : Value), 1 ≤ k ∧ k ≤ T ∧ bv = .slice Ab C cb ∧ rv = .slice A' (rowsAt C N T k).length c' ∧ Hid (BtI C N T n fs w g k Ab cb (rowsAt C N T k) A' c' v0 v1 v2 v3 v4 v5 wr)
set_option maxHeartbeats 4000000 in
set_option maxRecDepth 100000 in
theorem specBest_any {A : Option Addr} {c B n : Nat} {fs : List Int} (t : Int) (w : World) (hy : RdF w B A n fs) (hB : B ≤ w.heap.size) (hn : n ≤ 1048576) :
    Calls Tryz.prog 29 #[.int .i64 t, .slice A n c] w (BsRet (bsL t fs n) (bsP t fs n) (bsD t fs n) (bsB t fs n) w) := by
  have hb0 : Below w.heap.size w (w.alloc (.cells #[.int .i64 0, .int .i64 0] 43)) := (Below.refl _ _).alloc (Nat.le_refl _) _
  have KR0 : Hid (Blk (w.alloc (.cells #[.int .i64 0, .int .i64 0] 43)) w.heap.size 43 #[.int .i64 0, .int .i64 0]) := Lib.hid (Blk.new w _ _)
  have HB0 := Lib.hid hb0
  have HY := Lib.hid ((hy.below hb0 hB).more (Nat.le_trans hB hb0.size))
  clear hy hb0
  have HCN := Lib.hid (CntS.count_any (c := c) t (w.alloc (.cells #[.int .i64 0, .int .i64 0] 43)) HY.out (Nat.le_refl _) (by omega))
  cases h : AllI.okA t fs n with
  | false =>
    have hb := okA_bs h
    obtain ⟨e1, e2, e3⟩ := bs_no hb
    rw [e1, e2, e3, hb]
    rw [h] at HCN
    clear e1 e2 e3 h hb
    go_enter Tryz.func29, Tryz.ntmps29
    go_wp2_with fail
    refine HCN.out.mono ?_
    rintro e w1 ⟨rfl, hb1⟩
    have KRq := KR0.out.belowS hb1
    have HBq := Base.Below.nextA HB0.out hb1
    clear hb1 HCN HB0 KR0
    have z0 := (KRq).frz 0
    have z1 := (KRq).frz 1
    have c0 := (KRq).at 0 (v := .int .i64 0) rfl
    have c1 := (KRq).at 1 (v := .int .i64 0) rfl
    have HFIN := Lib.hid (bs_none HBq (Nat.le_refl _))
    have SS := ((KRq).setTo 0 (.int .i64 0) rfl).setTo 1 (.int .i64 0) rfl
    have s0 := SS.at 0 rfl
    have s1 := SS.at 1 rfl
    clear SS
    go_wp2
    refine bodyPost_ret (v := .tuple #[.slice none 0 0, .agg #[.int .i64 0, .int .i64 0], .bool false]) (by simp [results, Tryz.results29, go_sem, s0, s1]) rfl ?_
    exact HFIN.out
  | true =>
    obtain ⟨C, rfl, hC1, hC3, hN1, hCN⟩ := AllI.okA_yes h
    have hch := bits_ch hN1
    obtain ⟨_, h16⟩ := chB_range hch
    have hv : AllVF fs n := vfAll_true.1 (by
      cases hvf : vfAll fs n with
      | true => rfl
      | false => rw [chB_vf hvf] at hch; cases hch)
    have hT : 2 ^ (C * bitsQ fs n) ≤ 256 := pow_le hCN
    have hN4 := AllI.bits_le fs n
    have hT1 : 1 ≤ 2 ^ (C * bitsQ fs n) := Nat.pow_pos (by decide)
    have HQ : Hid (bsQ (C : Int) fs n = bst (farC C (bitsQ fs n) fs n) (2 ^ (C * bitsQ fs n))) := Lib.hid (by unfold bsQ avT; rw [Int.toNat_natCast])
    have HFQ : Hid (bsF (C : Int) fs n = farC C (bitsQ fs n) fs n (bst (farC C (bitsQ fs n) fs n) (2 ^ (C * bitsQ fs n)))) := Lib.hid (by unfold bsF; rw [HQ.out, Int.toNat_natCast])
    have HBB : Hid (bsB (C : Int) fs n = smallQ (farC C (bitsQ fs n) fs n (bst (farC C (bitsQ fs n) fs n) (2 ^ (C * bitsQ fs n))))) := Lib.hid (by unfold bsB; rw [h, HFQ.out]; rfl)
    rw [h] at HCN
    have HNO := Lib.hid (fun hs : smallQ (farC C (bitsQ fs n) fs n (bst (farC C (bitsQ fs n) fs n) (2 ^ (C * bitsQ fs n)))) = false => bs_no (HBB.out.trans hs))
    have HYE : Hid (smallQ (farC C (bitsQ fs n) fs n (bst (farC C (bitsQ fs n) fs n) (2 ^ (C * bitsQ fs n)))) = true → bsL (C : Int) fs n = rowsOf C (bitsQ fs n) (bst (farC C (bitsQ fs n) fs n) (2 ^ (C * bitsQ fs n))) ∧ bsP (C : Int) fs n = numQ (farC C (bitsQ fs n) fs n (bst (farC C (bitsQ fs n) fs n) (2 ^ (C * bitsQ fs n)))) ∧ bsD (C : Int) fs n = denQ (farC C (bitsQ fs n) fs n (bst (farC C (bitsQ fs n) fs n) (2 ^ (C * bitsQ fs n))))) := Lib.hid (fun hs => by
      obtain ⟨a1, a2, a3⟩ := bs_yes (HBB.out.trans hs)
      rw [a1, a2, a3, HFQ.out, HQ.out, Int.toNat_natCast]
      exact ⟨rfl, rfl, rfl⟩)
    clear h hch HQ HFQ
    generalize bsL (C : Int) fs n = L at *
    generalize bsP (C : Int) fs n = P at *
    generalize bsD (C : Int) fs n = Q at *
    generalize bsB (C : Int) fs n = ok at *
    have HFA := Lib.hid (fun k W A' c' (hb : Below (w.alloc (.cells #[.int .i64 0, .int .i64 0] 43)).heap.size (w.alloc (.cells #[.int .i64 0, .int .i64 0] 43)) W) (hr : RdI W W.heap.size A' (rowsOf C (bitsQ fs n) k)) => farS_any (c := c) (c' := c') (xs := rowsOf C (bitsQ fs n) k) W (HY.out.below hb (Nat.le_refl _)) hb.size hv h16 hr (Nat.le_refl _) (by rw [rowsOf_len]; exact hC1) (by rw [rowsOf_len]; exact hC3) (fun i hi => by
      rw [rowsOf_len] at hi
      have h1 := rowsOf_lt (n := bitsQ fs n) (code := k) hi
      have h2 : 2 ^ bitsQ fs n ≤ 2 ^ 4 := Nat.pow_le_pow_right (by decide) hN4
      omega))
    have HNE := Lib.hid (fun k (hk : k < 2 ^ (C * bitsQ fs n)) W A' c' (hr : RdI W W.heap.size A' (rowsOf C (bitsQ fs n) k)) => nextS_any (c := c') (n := C) W hr (Nat.le_refl _) (rowsOf_len _ _ _) hC1 hC3 (fun i hi => by
      have h1 := rowsOf_lt (n := bitsQ fs n) (code := k) hi
      have h2 : 2 ^ bitsQ fs n ≤ 2 ^ 4 := Nat.pow_le_pow_right (by decide) hN4
      omega) hN1 hN4)
    have HNX := Lib.hid (fun k (hk : k < 2 ^ (C * bitsQ fs n)) => next_of hC1 hC3 hN1 hN4 hCN hk)
    have HFC : Hid (∀ k, farQ (rowsOf C (bitsQ fs n) k) fs n = farC C (bitsQ fs n) fs n k) := Lib.hid (fun k => rfl)
    have HR0 : Hid (rowsAt C (bitsQ fs n) (2 ^ (C * bitsQ fs n)) 0 = List.replicate C 0) := Lib.hid (by unfold rowsAt; rw [if_pos (by omega), rowsOf_zero])
    have hmk := run_make_row' (P := Tryz.prog) 41 2 (.int .i64 0) 8 Tryz.underlying41 infoI rfl .i64 .i64 C (by omega) (by omega)
    have HDE := Lib.hid (fun k (hk : k < 2 ^ (C * bitsQ fs n)) => dec_of hC1 hC3 hN1 hN4 hCN hk)
    have HR0B : Hid (rowsOf C (bitsQ fs n) 0 = List.replicate C 0) := Lib.hid (rowsOf_zero C (bitsQ fs n))
    generalize bitsQ fs n = N at *
    generalize 2 ^ (C * N) = T at *
    go_enter Tryz.func29, Tryz.ntmps29
    go_wp2_with fail
    refine HCN.out.mono ?_
    rintro e w1 ⟨rfl, hb1⟩
    have HG1 := Lib.hid hb1
    clear hb1 HCN
    go_wp2_with fail
    clear hmk
    obtain ⟨W1, hW1⟩ : ∃ W1, W1 = w1.alloc (.cells (madeCells #[.int .i64 0] C) 2) := ⟨_, rfl⟩
    have ho : OwnI W1 w1.heap.size (.slice (some ⟨w1.heap.size, 0, none⟩) C C) (rowsOf C N 0) := by rw [HR0B.out, hW1]; exact rdI_start w1 C hC3
    have hb01 : Below w1.heap.size w1 W1 := by rw [hW1]; exact (Below.refl _ _).alloc (Nat.le_refl _) _
    have HF0 := Lib.hid (HFA.out 0 W1 (some ⟨w1.heap.size, 0, none⟩) C (Base.Below.nextA HG1.out hb01) ho.rd)
    rw [HFC.out 0, rowsOf_len] at HF0
    rw [← hW1]
    clear HR0 HR0B
    have hs01 : W1.heap.size = w1.heap.size + 1 := by rw [hW1]; simp
    refine HF0.out.mono ?_
    rintro e w2 ⟨v, rfl, hv, hb2⟩
    obtain ⟨s, A1, k1, c1, A2, k2, c2, fine, fn, fd, nn, dd, rfl, hp⟩ := hv
    obtain ⟨W3, hW3⟩ : ∃ W3, W3 = w2.alloc (.cells #[.bool s, .slice A1 k1 c1, .slice A2 k2 c2, .bool fine, .int .i64 fn, .int .i64 fd] 81) := ⟨_, rfl⟩
    have hb3 : Below w2.heap.size w2 W3 := by rw [hW3]; exact (Below.refl _ _).alloc (Nat.le_refl _) _
    have hb23 := Base.Below.nextA hb2 hb3
    have ho3 := ho.below hb23
    have KG : Hid (Blk W3 w2.heap.size 81 #[.bool s, .slice A1 k1 c1, .slice A2 k2 c2, .bool fine, .int .i64 fn, .int .i64 fd]) := Lib.hid (by rw [hW3]; exact Blk.new w2 _ _)
    have HLW : Hid (IsW W3 (farC C N fs n 0) 468 (.agg #[.bool s, .slice A1 k1 c1, .slice A2 k2 c2, .bool fine, .int .i64 fn, .int .i64 fd])) := Lib.hid (IsW.below ⟨_, _, _, _, _, _, _, _, _, _, _, _, rfl, hp⟩ hb3)
    have HN0 := Lib.hid (HNE.out 0 (by omega) W3 (some ⟨w1.heap.size, 0, none⟩) C ho3.rd)
    rw [HNX.out 0 (by omega)] at HN0
    rw [show (if 0 + 1 < T then rowsOf C N (0 + 1) else []) = rowsAt C N T 1 from rfl] at HN0
    have hs2 := hb2.size
    have hs3 := hb3.size
    have HO3 := Lib.hid ho3
    have HB3 := Lib.hid (Base.Below.nextA hb01 hb23)
    have HW3 := Lib.hid hW3
    clear hW1 hW3 ho ho3 hb01 hb2 hb3 hb23 hp HF0
    go_upto_region 6 with (fail)
    rw [← HW3.out]
    go_wp2_with fail
    refine HN0.out.mono ?_
    rintro e w4 ⟨A5, c5, rfl, ho5, hb5⟩
    obtain ⟨g, hg⟩ : ∃ g, g = w2.heap.size := ⟨_, rfl⟩
    rw [← hg] at KG ⊢
    have H0 : Hid (BtRel C N T n fs w1 g (.slice (some ⟨w1.heap.size, 0, none⟩) C C) (.slice A5 (rowsAt C N T 1).length c5) w4) := Lib.hid (by
      refine ⟨1, some ⟨w1.heap.size, 0, none⟩, C, A5, c5, _, _, _, _, _, _, Nat.le_refl _, hT1, rfl, rfl, Lib.hid ⟨?_, ?_, ?_, ?_, KG.out.belowS hb5, ?_, Base.Below.nextA HB3.out hb5⟩⟩
      · rw [bst_one]; exact HO3.out.below hb5
      · intro a e
        injection e with e
        subst e
        show w1.heap.size ≠ g
        omega
      · exact ownsRow_base ho5 HB3.out.size
      · intro h0 a e
        obtain ⟨A6, c6, e6, hh⟩ := ho5.form
        injection e6 with e7 _ _
        obtain ⟨g6, e8, h8, _⟩ := hh h0
        rw [e7, e8] at e
        injection e with e
        subst e
        show g6 ≠ g
        have := KG.out.lt
        omega
      · rw [bst_one]; exact HLW.out.below hb5)
    have hg1 : w1.heap.size < g := by omega
    clear ho5 hb5 HN0 HO3 HB3 HLW KG HW3 hg hs2 hs3 hs01
    go_wp2_with fail
    go_loopw [9, 11] (fun bv rv wr => BtRel C N T n fs w1 g bv rv wr) (fun _ rv wr => leftC N T wr rv)
    case atStart => exact H0.out
    case round =>
      obtain ⟨k, Ab, cb, A', c', v0, v1, v2, v3, v4, v5, hk1, hk, rfl, rfl, HI⟩ := hrel
      clear H0
      by_cases hlt : k < T
      · have hra : rowsAt C N T k = rowsOf C N k := by unfold rowsAt; rw [if_pos hlt]
        have hM0 : leftC N T wr (.slice A' (rowsAt C N T k).length c') = T - k := left_at (HDE.out k) hC1 hk HI.out.rows.rd
        rw [hra, rowsOf_len] at hM0
        rw [hra] at HI ⊢
        rw [rowsOf_len]
        have HF := Lib.hid (HFA.out k wr A' c' (Base.Below.nextA HG1.out HI.out.below) HI.out.rows.rd)
        rw [HFC.out k, rowsOf_len] at HF
        have HNEk := Lib.hid (HNE.out k hlt)
        rw [HNX.out k hlt, show (if k + 1 < T then rowsOf C N (k + 1) else []) = rowsAt C N T (k + 1) from rfl] at HNEk
        have hgw := HI.out.box.lt
        go_wp2_with fail
        refine HF.out.mono ?_
        rintro e w2 ⟨v, rfl, hv, hb2⟩
        obtain ⟨s', B1, j1, d1, B2, j2, d2, fine', fn', fd', nn', dd', rfl, hp⟩ := hv
        obtain ⟨W5, hW5⟩ : ∃ W5, W5 = w2.alloc (.cells #[.bool s', .slice B1 j1 d1, .slice B2 j2 d2, .bool fine', .int .i64 fn', .int .i64 fd'] 81) := ⟨_, rfl⟩
        have hb5 : Below w2.heap.size w2 W5 := by rw [hW5]; exact (Below.refl _ _).alloc (Nat.le_refl _) _
        have hb25 := Base.Below.nextA hb2 hb5
        have HV : Hid (IsW W5 (farC C N fs n k) 468 (.agg #[.bool s', .slice B1 j1 d1, .slice B2 j2 d2, .bool fine', .int .i64 fn', .int .i64 fd'])) := Lib.hid (IsW.below ⟨_, _, _, _, _, _, _, _, _, _, _, _, rfl, hp⟩ hb5)
        have KV : Hid (Blk W5 w2.heap.size 81 #[.bool s', .slice B1 j1 d1, .slice B2 j2 d2, .bool fine', .int .i64 fn', .int .i64 fd']) := Lib.hid (by rw [hW5]; exact Blk.new w2 _ _)
        have HI5 := Lib.hid (HI.out.mono hb25)
        have hs2 := hb2.size
        have HW5 := Lib.hid hW5
        have HCM := Lib.hid (cmp_any W5 HV.out HI5.out.least (by decide) (by decide) (by decide))
        clear hW5 hb5 hb25 hb2 hp HI HF
        go_upto_region 10 with (fail)
        rw [← HW5.out]
        have x0 := KV.out.at 0 (v := .bool s') rfl
        have x1 := KV.out.at 1 (v := .slice B1 j1 d1) rfl
        have x2 := KV.out.at 2 (v := .slice B2 j2 d2) rfl
        have x3 := KV.out.at 3 (v := .bool fine') rfl
        have x4 := KV.out.at 4 (v := .int .i64 fn') rfl
        have x5 := KV.out.at 5 (v := .int .i64 fd') rfl
        have y0 := HI5.out.box.at 0 (v := v0) rfl
        have y1 := HI5.out.box.at 1 (v := v1) rfl
        have y2 := HI5.out.box.at 2 (v := v2) rfl
        have y3 := HI5.out.box.at 3 (v := v3) rfl
        have y4 := HI5.out.box.at 4 (v := v4) rfl
        have y5 := HI5.out.box.at 5 (v := v5) rfl
        have hne : w2.heap.size ≠ g := by omega
        go_wp2_with fail
        refine HCM.out.mono ?_
        rintro e w6 ⟨rfl, hb6⟩
        by_cases hc : farC C N fs n k < farC C N fs n (bst (farC C N fs n) k)
        · rw [cmpW_lt hc]
          have hbk : bst (farC C N fs n) (k + 1) = k := by
            show (if farC C N fs n k < farC C N fs n (bst (farC C N fs n) k) then k else bst (farC C N fs n) k) = k
            rw [if_pos hc]
          have HI6 := Lib.hid (HI5.out.mono hb6)
          have HV6 := Lib.hid (HV.out.below hb6)
          have KV6 := Lib.hid (KV.out.belowS hb6)
          have hs6 := hb6.size
          clear x0 x1 x2 x3 x4 x5 y0 y1 y2 y3 y4 y5 hb6 hc HI5 HV KV HCM HW5
          have x0 := KV6.out.at 0 (v := .bool s') rfl
          have x1 := KV6.out.at 1 (v := .slice B1 j1 d1) rfl
          have x2 := KV6.out.at 2 (v := .slice B2 j2 d2) rfl
          have x3 := KV6.out.at 3 (v := .bool fine') rfl
          have x4 := KV6.out.at 4 (v := .int .i64 fn') rfl
          have x5 := KV6.out.at 5 (v := .int .i64 fd') rfl
          have y0 := HI6.out.box.at 0 (v := v0) rfl
          have y1 := HI6.out.box.at 1 (v := v1) rfl
          have y2 := HI6.out.box.at 2 (v := v2) rfl
          have y3 := HI6.out.box.at 3 (v := v3) rfl
          have y4 := HI6.out.box.at 4 (v := v4) rfl
          have y5 := HI6.out.box.at 5 (v := v5) rfl
          have z0 := HI6.out.box.frz 0
          have z1 := HI6.out.box.frz 1
          have z2 := HI6.out.box.frz 2
          have z3 := HI6.out.box.frz 3
          have z4 := HI6.out.box.frz 4
          have z5 := HI6.out.box.frz 5
          obtain ⟨W7, hW7⟩ : ∃ W7, W7 = put6 w6 g (.bool s') (.slice B1 j1 d1) (.slice B2 j2 d2) (.bool fine') (.int .i64 fn') (.int .i64 fd') := ⟨_, rfl⟩
          obtain ⟨t1, t2, t3, t4⟩ := HI6.out.take hC1 (Nat.le_of_lt hg1) (.bool s') (.slice B1 j1 d1) (.slice B2 j2 d2) (.bool fine') (.int .i64 fn') (.int .i64 fd')
          have t5 : IsW W7 (farC C N fs n k) 468 (.agg #[.bool s', .slice B1 j1 d1, .slice B2 j2 d2, .bool fine', .int .i64 fn', .int .i64 fd']) := by
            rw [hW7]
            obtain ⟨_, _, _, _, _, _, _, _, _, _, nn7, dd7, e7, h7⟩ := HV6.out
            exact ⟨_, _, _, _, _, _, _, _, _, _, nn7, dd7, e7, h7.put6 HI6.out.box (by decide) _ _ _ _ _ _⟩
          rw [← hW7] at t1 t2 t3
          have HT1 := Lib.hid t1
          have HT2 := Lib.hid t2
          have HT3 := Lib.hid t3
          have HT4 := Lib.hid t4
          have HT5 := Lib.hid t5
          unfold put6 at hW7
          have HW7 := Lib.hid hW7
          have HN7 := Lib.hid (HNEk.out W7 A' c' t1.rd)
          clear hW7 t1 t2 t3 t4 t5 HI6 HV6 KV6 HNEk
          go_wp2_with fail
          rw [← HW7.out]
          refine HN7.out.mono ?_
          rintro e w8 ⟨A8, c8, rfl, ho8, hb8⟩
          have hsz7 := HT3.out.size
          have hML : leftC N T w8 (.slice A8 (rowsAt C N T (k + 1)).length c8) < T - k := by
            rw [left_at (HDE.out (k + 1)) hC1 hlt ho8.rd]; omega
          have HN8 : Hid (BtRel C N T n fs w1 g (.slice A' C c') (.slice A8 (rowsAt C N T (k + 1)).length c8) w8) := Lib.hid (by
            refine ⟨k + 1, A', c', A8, c8, _, _, _, _, _, _, by omega, hlt, rfl, rfl, Lib.hid ⟨?_, HT4.out, ?_, ?_, HT2.out.belowS hb8, ?_, Base.Below.nextA HT3.out hb8⟩⟩
            · rw [hbk]; exact HT1.out.below hb8
            · exact ownsRow_base ho8 hsz7
            · intro h0 a e
              obtain ⟨A6, c6, e6, hh⟩ := ho8.form
              injection e6 with e7 _ _
              obtain ⟨g6, e8, h8, _⟩ := hh h0
              rw [e7, e8] at e
              injection e with e
              subst e
              show g6 ≠ g
              have := HT2.out.lt
              omega
            · rw [hbk]; exact HT5.out.below hb8)
          clear ho8 hb8 HN7 HT1 HT2 HT3 HT4 HT5 HW7
          go_wp2
          go_roundw
          case rel => exact HN8.out
          case measure =>
            rw [hM0]
            exact hML
        · obtain ⟨z, hz, hz1⟩ := cmpW_ge hc
          rw [hz]
          have hbk : bst (farC C N fs n) (k + 1) = bst (farC C N fs n) k := by
            show (if farC C N fs n k < farC C N fs n (bst (farC C N fs n) k) then k else bst (farC C N fs n) k) = bst (farC C N fs n) k
            rw [if_neg hc]
          have HI6 := Lib.hid (HI5.out.mono hb6)
          have hr6 := HI6.out.rows
          rw [rowsOf_len] at hr6
          have HN7 := Lib.hid (HNEk.out w6 A' c' hr6.rd)
          have hsz7 := HI6.out.below.size
          clear x0 x1 x2 x3 x4 x5 y0 y1 y2 y3 y4 y5 hb6 hc hz HI5 HV KV HCM HW5 hr6 HNEk
          go_wp2_with fail
          refine HN7.out.mono ?_
          rintro e w8 ⟨A8, c8, rfl, ho8, hb8⟩
          have hML : leftC N T w8 (.slice A8 (rowsAt C N T (k + 1)).length c8) < T - k := by
            rw [left_at (HDE.out (k + 1)) hC1 hlt ho8.rd]; omega
          have HN8 : Hid (BtRel C N T n fs w1 g (.slice Ab C cb) (.slice A8 (rowsAt C N T (k + 1)).length c8) w8) := Lib.hid (by
            refine ⟨k + 1, Ab, cb, A8, c8, _, _, _, _, _, _, by omega, hlt, rfl, rfl, Lib.hid ⟨?_, HI6.out.bne, ?_, ?_, HI6.out.box.belowS hb8, ?_, Base.Below.nextA HI6.out.below hb8⟩⟩
            · rw [hbk]; exact HI6.out.best.below hb8
            · exact ownsRow_base ho8 hsz7
            · intro h0 a e
              obtain ⟨A6, c6, e6, hh⟩ := ho8.form
              injection e6 with e7 _ _
              obtain ⟨g6, e8, h8, _⟩ := hh h0
              rw [e7, e8] at e
              injection e with e
              subst e
              show g6 ≠ g
              have := HI6.out.box.lt
              omega
            · rw [hbk]; exact HI6.out.least.below hb8)
          clear ho8 hb8 HN7 HI6
          go_wp2
          go_roundw
          case rel => exact HN8.out
          case measure =>
            rw [hM0]
            exact hML
      · obtain rfl : k = T := by omega
        have hra : rowsAt C N k k = [] := by unfold rowsAt; rw [if_neg (Nat.lt_irrefl _)]
        rw [hra] at HI ⊢
        rw [show ([] : List Int).length = 0 from rfl]
        have HGV := Lib.hid (give_any wr HI.out.least (by decide))
        unfold Fine.FRet at HGV
        have KBX := Lib.hid HI.out.box
        have HROW := Lib.hid HI.out.best
        have HBN := Lib.hid HI.out.bne
        have HBW := Lib.hid HI.out.below
        clear HI hra HFA HNE HNX HFC HY
        generalize farC C N fs n (bst (farC C N fs n) k) = q at *
        have hRl : (rowsOf C N (bst (farC C N fs n) k)).length = C := rowsOf_len _ _ _
        generalize rowsOf C N (bst (farC C N fs n) k) = R at *
        have HNO2 := Lib.hid (fun hs => And.intro (HNO.out hs) (HBB.out.trans hs))
        have HYE2 := Lib.hid (fun hs => And.intro (HYE.out hs) (HBB.out.trans hs))
        clear HNO HYE HBB
        generalize numQ q = p1 at *
        generalize denQ q = p2 at *
        generalize smallQ q = sm at *
        have y0 := KBX.out.at 0 (v := v0) rfl
        have y1 := KBX.out.at 1 (v := v1) rfl
        have y2 := KBX.out.at 2 (v := v2) rfl
        have y3 := KBX.out.at 3 (v := v3) rfl
        have y4 := KBX.out.at 4 (v := v4) rfl
        have y5 := KBX.out.at 5 (v := v5) rfl
        go_wp2_with fail
        clear y0 y1 y2 y3 y4 y5
        refine HGV.out.mono ?_
        rintro e w5 ⟨rfl, hb5⟩
        obtain ⟨W6, hW6⟩ : ∃ W6, W6 = w5.alloc (.cells #[.int .i64 p1, .int .i64 p2] 43) := ⟨_, rfl⟩
        have hb6 : Below w5.heap.size w5 W6 := by rw [hW6]; exact (Below.refl _ _).alloc (Nat.le_refl _) _
        have hb56 := Base.Below.nextA hb5 hb6
        have HBG := Base.Below.nextA HG1.out HBW.out
        have KRq := KR0.out.belowS (Base.Below.nextA HBG hb56)
        have HBq := Base.Below.nextA HB0.out (Base.Below.nextA HBG hb56)
        have HR6 := Lib.hid (OwnI.below HROW.out hb56)
        have KX : Hid (Blk W6 w5.heap.size 43 #[.int .i64 p1, .int .i64 p2]) := Lib.hid (by rw [hW6]; exact Blk.new w5 _ _)
        have HW6 := Lib.hid hW6
        have hwlt : w.heap.size < w1.heap.size := by
          have := HG1.out.size
          rw [World.size_alloc] at this
          omega
        clear hW6 hb6 hb56 hb5 HBG KBX HROW HGV HBW HBN
        go_upto_region 14 with (fail)
        rw [← HW6.out]
        cases sm with
        | false =>
          obtain ⟨⟨e1, e2, e3⟩, e4⟩ := HNO2.out rfl
          subst e1 e2 e3 e4
          clear HNO2 HYE2 HR6 KX HW6
          have z0 := (KRq).frz 0
          have z1 := (KRq).frz 1
          have c0 := (KRq).at 0 (v := .int .i64 0) rfl
          have c1 := (KRq).at 1 (v := .int .i64 0) rfl
          have HFIN := Lib.hid (bs_none HBq (Nat.le_refl _))
          have SS := ((KRq).setTo 0 (.int .i64 0) rfl).setTo 1 (.int .i64 0) rfl
          have s0 := SS.at 0 rfl
          have s1 := SS.at 1 rfl
          clear SS
          go_wp2
          refine bodyPost_ret (v := .tuple #[.slice none 0 0, .agg #[.int .i64 0, .int .i64 0], .bool false]) (by simp [results, Tryz.results29, go_sem, s0, s1]) rfl ?_
          exact HFIN.out
        | true =>
          obtain ⟨⟨e1, e2, e3⟩, e4⟩ := HYE2.out rfl
          subst e1 e2 e3 e4
          have z0 := (KRq).frz 0
          have z1 := (KRq).frz 1
          have c0' := (KRq).at 0 (v := .int .i64 0) rfl
          have c1' := (KRq).at 1 (v := .int .i64 0) rfl
          have y0 := KX.out.at 0 (v := .int .i64 P) rfl
          have y1 := KX.out.at 1 (v := .int .i64 Q) rfl
          have HFIN : Hid (BsRet L P Q true w (.returned (.tuple #[.slice Ab C cb, .agg #[.int .i64 P, .int .i64 Q], .bool true])) ((W6.setCell ⟨w.heap.size, 0, none⟩ (.int .i64 P)).setCell ⟨w.heap.size, 1, none⟩ (.int .i64 Q)).drew) := Lib.hid (by
            have h1 := ownsRow_setCell_below HR6.out (a := ⟨w.heap.size, 0, none⟩) hwlt (.int .i64 P)
            have h2 := ownsRow_setCell_below h1 (a := ⟨w.heap.size, 1, none⟩) hwlt (.int .i64 Q)
            have h3 := ownsRow_base h2 (Nat.le_of_lt hwlt)
            refine ⟨Ab, cb, by rw [hRl], ?_, ((HBq.setCell (p := ⟨w.heap.size, 0, none⟩) (Nat.le_refl _) _).setCell (p := ⟨w.heap.size, 1, none⟩) (Nat.le_refl _) _).drew⟩
            rw [hRl]
            exact OwnI.below h3 ((Below.refl _ _).drew))
          have SS := ((KRq).setTo 0 (.int .i64 P) rfl).setTo 1 (.int .i64 Q) rfl
          have s0 := SS.at 0 rfl
          have s1 := SS.at 1 rfl
          clear SS HNO2 HYE2 HR6 KX HW6
          go_wp2_with fail
          go_region
          all_goals
            go_wp2
            refine bodyPost_ret (v := .tuple #[.slice Ab C cb, .agg #[.int .i64 P, .int .i64 Q], .bool true]) (by simp [results, Tryz.results29, go_sem, s0, s1]) rfl ?_
            exact HFIN.out
end Go.Proofs.YtionognmgcabbaaGreat.Wide
/- Walks in memory; whether one is valid, in plain words. -/
namespace Go.Proofs.YtionognmgcabbaaGreat.WalkM
open Go.RowKit Go.Proofs.YtionognmgcabbaaGreat Go.Proofs.YtionognmgcabbaaGreat.Base Go.Proofs.YtionognmgcabbaaGreat.Mem Go.Proofs.YtionognmgcabbaaGreat.MemF Go.Proofs.YtionognmgcabbaaGreat.ChM
set_option linter.unusedVariables false
/-- n lists of fractions lie behind A, in blocks below B: list i has L i fractions, its numbers are fs i -/
def RdFF (w : World) (B : Nat) (A : Option Addr) (n : Nat) (L : Nat → Nat) (fs : Nat → List Int) : Prop :=
  0 < n → ∃ b off, A = some ⟨b, off, none⟩ ∧ b < B ∧ ∀ i, i < n → ∃ A' c, w.cell? ⟨b, off + i, none⟩ = some (.slice A' (L i) c) ∧ RdF w B A' (L i) (fs i)
theorem RdFF.below {w w' : World} {B C n : Nat} {A : Option Addr} {L : Nat → Nat} {fs : Nat → List Int} (h : RdFF w B A n L fs) (hb : Below C w w') (hBC : B ≤ C) : RdFF w' B A n L fs := fun h0 => by
  obtain ⟨b, off, e, hlt, hc⟩ := h h0
  refine ⟨b, off, e, hlt, fun i hi => ?_⟩
  obtain ⟨A', c, h1, h2⟩ := hc i hi
  exact ⟨A', c, (hb.cell (p := ⟨b, off + i, none⟩) (by show b < C; omega)).trans h1, h2.below hb hBC⟩
theorem RdFF.more {w : World} {B C n : Nat} {A : Option Addr} {L : Nat → Nat} {fs : Nat → List Int} (h : RdFF w B A n L fs) (hBC : B ≤ C) : RdFF w C A n L fs := fun h0 => by
  obtain ⟨b, off, e, hlt, hc⟩ := h h0
  refine ⟨b, off, e, by omega, fun i hi => ?_⟩
  obtain ⟨A', c, h1, h2⟩ := hc i hi
  exact ⟨A', c, h1, h2.more hBC⟩
theorem RdFF.at {w : World} {B n : Nat} {A : Option Addr} {L : Nat → Nat} {fs : Nat → List Int} (h : RdFF w B A n L fs) {i : Nat} (hi : i < n) : ∃ b off A' c, A = some ⟨b, off, none⟩ ∧ b < B ∧ w.cell? ⟨b, off + i, none⟩ = some (.slice A' (L i) c) ∧ RdF w B A' (L i) (fs i) := by
  obtain ⟨b, off, e, hlt, hc⟩ := h (by omega)
  obtain ⟨A', c, h1, h2⟩ := hc i hi
  exact ⟨b, off, A', c, e, hlt, h1, h2⟩
def rowOk (n : Nat) (L : Nat → Nat) (fs : Nat → List Int) (i : Nat) : Bool := decide (L i = n) && chB (fs i) (L i)
/-- a valid walk -/
def wkB (n : Nat) (L : Nat → Nat) (fs : Nat → List Int) : Bool := decide (1 ≤ n ∧ n ≤ 6) && (List.range n).all (rowOk n L fs)
theorem wkB_out {n : Nat} {L : Nat → Nat} {fs : Nat → List Int} (h : ¬ (1 ≤ n ∧ n ≤ 6)) : wkB n L fs = false := by
  unfold wkB; rw [decide_eq_false h]; rfl
theorem wkB_in {n : Nat} {L : Nat → Nat} {fs : Nat → List Int} (h : 1 ≤ n ∧ n ≤ 6) : wkB n L fs = (List.range n).all (rowOk n L fs) := by
  unfold wkB; rw [decide_eq_true h]; rfl
theorem wkB_true {n : Nat} {L : Nat → Nat} {fs : Nat → List Int} (h : wkB n L fs = true) : 1 ≤ n ∧ n ≤ 6 ∧ ∀ i, i < n → L i = n ∧ chB (fs i) n = true := by
  simp only [wkB, Bool.and_eq_true, decide_eq_true_eq] at h
  refine ⟨h.1.1, h.1.2, fun i hi => ?_⟩
  have := all_range.1 h.2 i hi
  simp only [rowOk, Bool.and_eq_true, decide_eq_true_eq] at this
  exact ⟨this.1, by rw [← this.1]; exact (by have h2 := this.2; rw [this.1] at h2 ⊢; exact h2)⟩
end Go.Proofs.YtionognmgcabbaaGreat.WalkM
/- The laws' sizes and copies of lists of fractions. -/
namespace Go.Proofs.YtionognmgcabbaaGreat.CpyF
open Go.RowKit Go.Proofs.YtionognmgcabbaaGreat Go.Proofs.YtionognmgcabbaaGreat.Base Go.Proofs.YtionognmgcabbaaGreat.Mem Go.Proofs.YtionognmgcabbaaGreat.Cpy Go.Proofs.YtionognmgcabbaaGreat.MemF Go.Proofs.YtionognmgcabbaaGreat.WalkM
set_option linter.unusedVariables false
theorem szF_any (A : Option Addr) (n c : Nat) (k : Int) (w : World) (hn : n ≤ 9223372036854775807) (hk : 0 ≤ k) (hk2 : k ≤ 1048576) :
    Calls Tryz.prog 12 #[.slice A n c, .int .i64 k] w fun e w' => ∃ r : Int, e = .returned (.int .i64 r) ∧ (r = -1 ∨ (0 ≤ r ∧ r = k - n)) ∧ w = w' := by
  by_cases h0 : k - (n : Int) < 0
  · go_enter Tryz.func12, Tryz.ntmps12
    go_wp2
    go_ret
    exact ⟨-1, rfl, .inl rfl, rfl⟩
  · go_enter Tryz.func12, Tryz.ntmps12
    go_wp2
    go_ret
    exact ⟨k - n, rfl, .inr ⟨by omega, rfl⟩, rfl⟩
/-! ### Fractions that are copied -/
theorem toFr_any (a b : Int) (w : World) : Calls Tryz.prog 38 #[.agg #[.int .i64 a, .int .i64 b]] w fun e w' => e = .returned (.agg #[.int .i64 a, .int .i64 b]) ∧ Below w.heap.size w w' := by
  go_enter Tryz.func38, Tryz.ntmps38
  go_wp2
  exact bodyPost_ret (v := .agg #[.int .i64 a, .int .i64 b]) (by simp [results, Tryz.results38, go_sem]) rfl ⟨rfl, (((Below.refl _ _).alloc (Nat.le_refl _) _).alloc (by simp) _).alloc (by simp; omega) _⟩
theorem set2_half {fs : List Int} {n j : Nat} (hl : fs.length = 2 * n) (hj : j < n) (t : Nat) (ht : t < 2) :
    (ints (fs.take (2 * j + t) ++ List.replicate (2 * n - (2 * j + t)) 0)).set (2 * j + t) (.int .i64 (fs.getD (2 * j + t) 0)) = ints (fs.take (2 * j + t + 1) ++ List.replicate (2 * n - (2 * j + t + 1)) 0) := by
  have hlt : 2 * j + t < fs.length := by omega
  rw [ints_set, List.set_append_right _ _ (by rw [List.length_take]; omega), List.length_take, Nat.min_eq_left (by omega), Nat.sub_self,
    show 2 * n - (2 * j + t) = (2 * n - (2 * j + t + 1)) + 1 by omega, List.replicate_succ, List.set_cons_zero, List.take_succ_eq_append_getElem hlt, List.append_assoc]
  simp [List.getD, hlt]
def HalfF (wr : World) (B g n j : Nat) (fs : List Int) : Prop := wr.ownsRow B 43 2 (.slice (some ⟨g, 0, none⟩) n n) n (ints (fs.take (2 * j) ++ List.replicate (2 * n - 2 * j) 0))
theorem halfF_store {wr : World} {B g n j t : Nat} {fs : List Int} (h : wr.ownsRow B 43 2 (.slice (some ⟨g, 0, none⟩) n n) n (ints (fs.take (2 * j + t) ++ List.replicate (2 * n - (2 * j + t)) 0))) (hl : fs.length = 2 * n) (hj : j < n) (ht : t < 2) :
    (wr.setCell ⟨g, 2 * j + t, none⟩ (.int .i64 (fs.getD (2 * j + t) 0))).ownsRow B 43 2 (.slice (some ⟨g, 0, none⟩) n n) n (ints (fs.take (2 * j + t + 1) ++ List.replicate (2 * n - (2 * j + t + 1)) 0)) := by
  obtain ⟨h1, h2⟩ := h.stored (2 * j + t) (.int .i64 (fs.getD (2 * j + t) 0))
  rw [set2_half hl hj t ht] at h1
  exact h1
theorem halfF_next {wr : World} {B g n j : Nat} {fs : List Int} (h : HalfF wr B g n j fs) (hl : fs.length = 2 * n) (hj : j < n) : HalfF ((wr.setCell ⟨g, j * 2, none⟩ (.int .i64 (fs.getD (2 * j) 0))).setCell ⟨g, j * 2 + 1, none⟩ (.int .i64 (fs.getD (2 * j + 1) 0))) B g n (j + 1) fs := by
  have h1 := halfF_store (t := 0) h hl hj (by decide)
  have h2 := halfF_store (t := 1) h1 hl hj (by decide)
  unfold HalfF
  rw [Nat.mul_comm j 2]
  exact h2
def ToRelF (B g n : Nat) (fs : List Int) (w : World) (i : Value) (wr : World) : Prop := ∃ j : Nat, j ≤ n ∧ i = .int .i64 (j : Int) ∧ Hid (HalfF wr B g n j fs) ∧ Hid (Below B w wr)
def zero2 : Array Value := #[.int .i64 0, .int .i64 0]
theorem zero2_at : ∀ m, m < 2 → zero2[m]! = .int .i64 0
  | 0, _ => rfl
  | 1, _ => rfl
  | n + 2, h => absurd h (by omega)
theorem made2 (n : Nat) : (madeCells zero2 (n * 2)).toList = ints (List.replicate (2 * n) 0) := by
  apply List.ext_getElem?
  intro j
  rw [Nat.mul_comm n 2]
  by_cases hj : j < 2 * n
  · have h1 := zero2_at (j % 2) (Nat.mod_lt _ (by decide))
    have h2 : zero2.size = 2 := rfl
    simp [madeCells, ints, hj, h2, h1]
  · simp [madeCells, ints, hj]
theorem run_make2 (n : Nat) (hn : n ≤ 1048576) (w : World) : (Instr.makeSlice 28 (.int .i64 (n : Int)) (.int .i64 (n : Int))).run Tryz.prog w = .ok (.slice (some ⟨w.heap.size, 0, none⟩) n n) (w.alloc (.cells (madeCells zero2 (n * 2)) 43)) := by
  obtain ⟨i, hi, hzz⟩ := Option.map_eq_some_iff.1 infoFr
  simp only [Prod.mk.injEq] at hzz
  obtain ⟨hz, hs, hb⟩ := hzz
  have hr := run_make (P := Tryz.prog) w 28 43 i _ Tryz.underlying28 hi hz .i64 .i64 n n (by omega) (Int.le_refl _) (by rw [hb]; omega) (by omega)
  simp only [Int.toNat_natCast, hs] at hr
  exact hr
theorem halfF_start (w : World) (n : Nat) (hn : n ≤ 1048576) (fs : List Int) : HalfF (w.alloc (.cells (madeCells zero2 (n * 2)) 43)) w.heap.size w.heap.size n 0 fs := by
  have := World.ownsRow_lit (e := 43) (size := 2) (base := w.heap.size) w (madeCells zero2 (n * 2)) n (Nat.le_refl _) (by simp [maxLen]; omega) (by rw [size_madeCells])
  rw [made2] at this
  unfold HalfF
  simpa using this
set_option maxHeartbeats 1000000 in
set_option maxRecDepth 100000 in
theorem toF_any (A : Option Addr) (c B0 n : Nat) (fs : List Int) (w : World) (hx : RdF w B0 A n fs) (hB : B0 ≤ w.heap.size) (hn : n ≤ 1048576) (hl : fs.length = 2 * n) :
    Calls Tryz.prog 15 #[.slice A n c] w fun e w' => ∃ g, e = .returned (.slice (some ⟨g, 0, none⟩) n n) ∧ OwnF w' w.heap.size (.slice (some ⟨g, 0, none⟩) n n) n fs ∧ Below w.heap.size w w' := by
  have HX := Lib.hid (hx.more hB)
  have HL := Lib.hid hl
  have hmk := fun w => run_make2 n hn w
  have H0 : Hid (ToRelF w.heap.size w.heap.size n fs w (.int .i64 0) (w.alloc (.cells (madeCells zero2 (n * 2)) 43))) := Lib.hid ⟨0, Nat.zero_le _, rfl, Lib.hid (halfF_start w n hn fs), Lib.hid ((Below.refl _ _).alloc (Nat.le_refl _) _)⟩
  clear hx hl
  go_enter Tryz.func15, Tryz.ntmps15
  go_wp2
  clear hmk
  go_loopw [4] (fun i wr => ToRelF w.heap.size w.heap.size n fs w i wr) (fun i _ => n - (intOf i).toNat)
  case atStart => exact H0.out
  case round =>
    obtain ⟨j, hj, rfl, hrow, hb⟩ := hrel
    by_cases hlt : j < n
    · obtain ⟨b, off, rfl, hbl, c0, c1⟩ := (HX.out.below hb.out (Nat.le_refl _)).at hlt
      have hcell : ∀ i, i < 2 → ∃ x : Int, wr.cell? ⟨w.heap.size, j * 2 + i, none⟩ = some (.int .i64 x) := fun i hi => by
        have hh : wr.ownsRow w.heap.size 43 2 (.slice (some ⟨w.heap.size, 0, none⟩) n n) n (ints (fs.take (2 * j) ++ List.replicate (2 * n - 2 * j) 0)) := hrow.out
        have e1 := World.ownsRow.cellAt hh (j * 2 + i) (by omega)
        rw [ints_get _ (j * 2 + i) (by have := HL.out; simp; omega)] at e1
        exact ⟨_, e1⟩
      have hfz : ∀ i, wr.frozen? ⟨w.heap.size, i, none⟩ = false := fun i => by
        have hh : wr.ownsRow w.heap.size 43 2 (.slice (some ⟨w.heap.size, 0, none⟩) n n) n (ints (fs.take (2 * j) ++ List.replicate (2 * n - 2 * j) 0)) := hrow.out
        exact hh.frozenAt i
      have HN := Lib.hid (fun w1 (h1 : Below wr.heap.size wr w1) => (show ToRelF w.heap.size w.heap.size n fs w (.int .i64 ((j : Int) + 1)) ((w1.setCell ⟨w.heap.size, j * 2, none⟩ (.int .i64 (fs.getD (2 * j) 0))).setCell ⟨w.heap.size, j * 2 + 1, none⟩ (.int .i64 (fs.getD (2 * j + 1) 0))) from ⟨j + 1, hlt, by simp, Lib.hid (halfF_next (show HalfF w1 w.heap.size w.heap.size n j fs from ownsRow_below hrow.out h1) HL.out hlt), Lib.hid (((hb.out.trans (h1.mono hb.out.size)).setCell (p := ⟨w.heap.size, j * 2, none⟩) (Nat.le_refl _) _).setCell (p := ⟨w.heap.size, j * 2 + 1, none⟩) (Nat.le_refl _) _)⟩))
      have HT := Lib.hid (fun W => toFr_any (fs.getD (2 * j) 0) (fs.getD (2 * j + 1) 0) W)
      obtain ⟨x0, y0⟩ := hcell 0 (by decide)
      have hlz : w.heap.size < wr.heap.size := block_lt_of_cell y0
      obtain ⟨x1, y1⟩ := hcell 1 (by decide)
      rw [Nat.add_zero] at y0
      have HY := Lib.hid (And.intro y0 y1)
      have HZ := Lib.hid hfz
      clear hrow hb hcell hfz y0 y1
      generalize fs.getD (2 * j) 0 = f0 at *
      generalize fs.getD (2 * j + 1) 0 = f1 at *
      go_wp2_with fail
      refine (HT.out _).mono ?_
      rintro e w1 ⟨rfl, hb1⟩
      have y0 := (hb1.cell (p := ⟨w.heap.size, j * 2, none⟩) hlz).trans HY.out.1
      have y1 := (hb1.cell (p := ⟨w.heap.size, j * 2 + 1, none⟩) hlz).trans HY.out.2
      have z0 := (hb1.frozen (p := ⟨w.heap.size, j * 2, none⟩) hlz).trans (HZ.out _)
      have z1 := (hb1.frozen (p := ⟨w.heap.size, j * 2 + 1, none⟩) hlz).trans (HZ.out _)
      have HM := Lib.hid (HN.out w1 hb1)
      clear hb1 c0 c1
      go_wp2
      go_roundw
      case rel => exact HM.out
      case measure => simp [intOf]; omega
    · obtain rfl : j = n := by omega
      have HR : Hid (OwnF wr w.heap.size (.slice (some ⟨w.heap.size, 0, none⟩) j j) j fs) := Lib.hid (by
        have := hrow.out
        unfold HalfF at this
        rw [Nat.sub_self, List.replicate_zero, List.append_nil, List.take_of_length_le (by have := HL.out; omega)] at this
        exact this)
      have HB := Lib.hid hb.out
      clear hrow hb
      go_wp2
      go_ret
      exact ⟨w.heap.size, rfl, HR.out, HB.out⟩
end Go.Proofs.YtionognmgcabbaaGreat.CpyF
/- Openers for lists of fractions, and for walks. -/
namespace Go.Proofs.YtionognmgcabbaaGreat.Open
open Go.ChangeShapes Go.WideShapes Go.ChangeAt Go.RowKit Go.Joins Go.Proofs.YtionognmgcabbaaGreat
set_option linter.unusedVariables false
set_option maxRecDepth 100000
section
variable {H : Type} {enc : TypeId × Value → H} {w : World} {base b0 : Nat} {spare : Nat → Bool} {held : Bool} {v : Value} {d : DataW H} {p : List MemPlace}
theorem cellsFi : Tryz.prog.cellsOf 2 = 1 := by kernel_rfl
theorem cellsFr : Tryz.prog.cellsOf 59 = 2 := by kernel_rfl
theorem frac_cells {n : Nat} {cs : List Value} {x : DataW H × List MemPlace} (h : DataW.trod enc Tryz.prog w base spare held n 59 cs = some x) : ∃ a b : Int, cs = [.int .i64 a, .int .i64 b] := by
  obtain ⟨xs, n', _, _, hl, hlen, hg⟩ := DataW.trod_struct Tryz.underlying59 h
  obtain ⟨a, e0⟩ := field_int hlen hg 0 _ rfl rfl
  obtain ⟨b, e1⟩ := field_int hlen hg 1 _ rfl rfl
  rw [cellsFr] at hl
  match cs, hl with
  | [c0, c1], _ =>
    simp [cellsFi] at e0 e1
    exact ⟨a, b, by rw [e0, e1]⟩
/-- a list of fractions -/
structure IsFracs (w : World) (v : Value) : Prop where
  ex : ∃ (A : Option Addr) (n c : Nat) (fs : List Int), v = .slice A n c ∧ n ≤ 9223372036854775807 ∧ fs.length = 2 * n ∧ MemF.RdF w w.heap.size A n fs
theorem fracs_of {fuel : Nat} {c0 : Value} {y : DataW H × List MemPlace} (hf : DataW.trod enc Tryz.prog w base (fun _ => true) held fuel 25 [c0] = some y) : IsFracs w c0 := by
  rcases Go.Deep.open_slice Tryz.underlying25 hf with ⟨hcs, _⟩ | ⟨x, len, cap, m, n, D, Pl, hcs, _, hl, hm, hmm, _, hx⟩
  · simp at hcs
    subst hcs
    exact ⟨none, 0, 0, [], rfl, by decide, rfl, fun h => absurd h (by simp)⟩
  · simp at hcs
    subst hcs
    simp only [if_true] at hmm
    unfold maxLen at hm
    have hs2 : 0 < m → x.spot = none := fun h0 => by
      obtain ⟨cs', h1, h2⟩ := hx 0 h0
      rw [cellsFr] at h1
      obtain ⟨a, b, rfl⟩ := frac_cells h2
      have h3 := (World.cells?_some h1).2.2 0 (by decide)
      have e : (x.add (0 * 2)).add 0 = x := by simp [Addr.add]
      rw [e] at h3
      exact World.cell?_spot h3
    have each : ∀ i, i < m → ∃ l : List Int, l.length = 2 ∧ ∀ j, j < 2 → w.cell? (x.add (i * 2 + j)) = some (.int .i64 (l.getD j 0)) := fun i hi => by
      obtain ⟨cs', h1, h2⟩ := hx i hi
      rw [cellsFr] at h1
      obtain ⟨a, b, rfl⟩ := frac_cells h2
      obtain ⟨_, _, h3⟩ := World.cells?_some h1
      refine ⟨[a, b], rfl, fun j hj => ?_⟩
      have hs2 := hs2 (by omega)
      have h4 := h3 j hj
      rw [addr_add hs2] at h4
      rw [addr_add (a := ⟨x.block, x.off + i * 2, none⟩) rfl] at h4
      rw [addr_add hs2, ← Nat.add_assoc, h4]
      match j, hj with
      | 0, _ => rfl
      | 1, _ => rfl
      | j + 2, hj => exact absurd hj (by omega)
    obtain ⟨L, hL⟩ := Go.Deep.choose_lt each
    have hlen : ((List.range (2 * len)).map fun k => (L (k / 2)).getD (k % 2) 0).length = 2 * len := by simp
    refine ⟨some x, len, cap, (List.range (2 * len)).map fun k => (L (k / 2)).getD (k % 2) 0, rfl, by omega, hlen, fun h0 => ?_⟩
    have h00 := (hL 0 (by omega)).2 0 (by decide)
    rw [Nat.zero_mul, Nat.zero_add] at h00
    obtain ⟨hs, hb⟩ := spot_of h00
    refine ⟨x.block, x.off, by cases x; simp_all, hb, fun i hi => ?_⟩
    have h5 := (hL (i / 2) (by omega)).2 (i % 2) (Nat.mod_lt _ (by decide))
    rw [Nat.mul_comm, Nat.div_add_mod] at h5
    rw [← addr_add hs, h5]
    simp [List.getD, hi]
theorem fracs (hv : Value.okWide Tryz.prog w .any b0 25 v) (h : DataW.Trod enc Tryz.prog w base (fun _ => true) held 25 v d p) : IsFracs w v := by
  obtain ⟨a, len, cap, rfl⟩ := okWide_slice Tryz.underlying25 hv
  obtain ⟨fuel, hf⟩ := h
  exact fracs_of (by simpa [Value.cells] using hf)
end
end Go.Proofs.YtionognmgcabbaaGreat.Open
/- BestRows: the law. -/
namespace Go.Proofs.YtionognmgcabbaaGreat.BestL
open Go.RowKit Go.Proofs.YtionognmgcabbaaGreat Go.Proofs.YtionognmgcabbaaGreat.Base Go.Proofs.YtionognmgcabbaaGreat.Mem Go.Proofs.YtionognmgcabbaaGreat.MemF Go.Proofs.YtionognmgcabbaaGreat.ChM Go.Proofs.YtionognmgcabbaaGreat.GiveM Go.Proofs.YtionognmgcabbaaGreat.ExtM Go.Proofs.YtionognmgcabbaaGreat.Ratio Go.Proofs.YtionognmgcabbaaGreat.Wide Go.Proofs.YtionognmgcabbaaGreat.Cpy Go.Proofs.YtionognmgcabbaaGreat.RatM Go.Proofs.YtionognmgcabbaaGreat.Blk
set_option linter.unusedVariables false
theorem bsL_len (t : Int) (fs : List Int) (n : Nat) : (bsL t fs n).length ≤ 3 := by
  unfold bsL
  split
  · rename_i h
    unfold bsB at h
    rw [Bool.and_eq_true] at h
    obtain ⟨C, rfl, _, hC3, _⟩ := AllI.okA_yes h.1
    rw [NextM.rowsOf_len]
    simpa using hC3
  · exact Nat.zero_le _
set_option maxHeartbeats 4000000 in
set_option maxRecDepth 100000 in
theorem exactBest_any (A1 : Option Addr) (c1 : Nat) (t : Int) (n : Nat) (fs : List Int) (w : World) (hl1 : n ≤ 9223372036854775807) (hf1 : fs.length = 2 * n) (hx1 : MemF.RdF w w.heap.size A1 n fs) :
    Calls Tryz.prog 6 #[.int .i64 t, .slice A1 n c1] w fun e w' => e = .returned (.bool true) ∧ Below w.heap.size w w' := by
  have hRL := bsL_len t fs n
  have HX1 := Lib.hid hx1
  have HSZ1 := Lib.hid (fun k W hk hk2 => CpyF.szF_any A1 n c1 k W hl1 hk hk2)
  have HF1 := Lib.hid hf1
  clear hx1 hf1
  go_enter Tryz.func6, Tryz.ntmps6
  go_wp2_with fail
  refine (HSZ1.out 1048576 w (by omega) (by omega)).mono ?_
  rintro e w' ⟨r1, rfl, hr1, rfl⟩
  rcases hr1 with rfl | ⟨hr1a, hr1b⟩
  · go_wp2
    go_ret
    exact ⟨rfl, Below.refl _ _⟩
  have hb1 : n ≤ 1048576 := by omega
  clear hr1b
  have CT1 := Lib.hid (fun (W : World) (hW : Below w.heap.size w W) => CpyF.toF_any A1 c1 w.heap.size n fs W (HX1.out.below hW (Nat.le_refl _)) hW.size hb1 HF1.out)
  have HS := Lib.hid (fun (A : Option Addr) (c B : Nat) (W : World) (hx : MemF.RdF W B A n fs) (hB : B ≤ W.heap.size) => specBest_any (c := c) t W hx hB hb1)
  have HI := Lib.hid (fun (A : Option Addr) (c B : Nat) (W : World) (hx : MemF.RdF W B A n fs) (hB : B ≤ W.heap.size) => implBest_any (c := c) t W hx hB hb1)
  generalize bsL t fs n = R at *
  generalize bsP t fs n = P at *
  generalize bsD t fs n = Q at *
  generalize bsB t fs n = ok at *
  have hok : (ok != ok) = false := by simp
  go_wp2_with fail
  refine (CT1.out _ (Below.refl _ _)).mono ?_
  rintro e w1 ⟨g_t1, rfl, o_t1, b_w1⟩
  have B_w1 := Lib.hid (b_w1)
  have hs_w1 := (b_w1).size
  have t1 := Lib.hid o_t1
  clear b_w1 o_t1
  go_wp2_with fail
  refine (HS.out _ _ w1.heap.size w1 t1.out.rd (Nat.le_refl _)).mono ?_
  rintro e w2 ⟨A_s, c_s, rfl, o_s, b_w2⟩
  have B_w2 := Lib.hid (Base.Below.nextA B_w1.out b_w2)
  have hs_w2 := (b_w2).size
  have s := Lib.hid o_s
  clear b_w2 o_s
  obtain ⟨w3, hw3⟩ : ∃ V, V = w2.alloc (.cells #[.int .i64 P, .int .i64 Q] 43) := ⟨_, rfl⟩
  have y_w3 : Below w2.heap.size w2 w3 := by rw [hw3]; exact (Below.refl _ _).alloc (Nat.le_refl _) _
  have K_s : Hid (Blk.Blk w3 w2.heap.size 43 #[.int .i64 P, .int .i64 Q]) := Lib.hid (by rw [hw3]; exact Blk.Blk.new _ _ _)
  have hl_s := K_s.out.lt
  have HV_w3 := Lib.hid hw3
  have B_w3 := Lib.hid (Base.Below.nextA B_w2.out y_w3)
  have s_w3 := Lib.hid (s.out.below y_w3)
  have hs_w3 := (y_w3).size
  clear hw3 y_w3
  have R3 := Lib.hid (s_w3.out.rd)
  go_wp2_with fail
  rw [← HV_w3.out]
  refine (CT1.out _ B_w3.out).mono ?_
  rintro e w4 ⟨g_x1, rfl, o_x1, b_w4⟩
  have B_w4 := Lib.hid (Base.Below.nextA B_w3.out b_w4)
  have K_s_w4 := Lib.hid (K_s.out.belowS b_w4)
  have Y_w4 := Lib.hid (b_w4)
  have hs_w4 := (b_w4).size
  have x1 := Lib.hid o_x1
  clear b_w4 o_x1
  go_wp2_with fail
  refine (HI.out _ _ w4.heap.size w4 x1.out.rd (Nat.le_refl _)).mono ?_
  rintro e w5 ⟨A_g, c_g, rfl, o_g, b_w5⟩
  have B_w5 := Lib.hid (Base.Below.nextA B_w4.out b_w5)
  have K_s_w5 := Lib.hid (K_s_w4.out.belowS b_w5)
  have x1_w5 := Lib.hid (x1.out.below b_w5)
  have Y_w5 := Lib.hid (Base.Below.nextA Y_w4.out b_w5)
  have hs_w5 := (b_w5).size
  have g := Lib.hid o_g
  clear b_w5 o_g
  obtain ⟨w6, hw6⟩ : ∃ V, V = w5.alloc (.cells #[.int .i64 P, .int .i64 Q] 43) := ⟨_, rfl⟩
  have y_w6 : Below w5.heap.size w5 w6 := by rw [hw6]; exact (Below.refl _ _).alloc (Nat.le_refl _) _
  have K_g : Hid (Blk.Blk w6 w5.heap.size 43 #[.int .i64 P, .int .i64 Q]) := Lib.hid (by rw [hw6]; exact Blk.Blk.new _ _ _)
  have hl_g := K_g.out.lt
  have HV_w6 := Lib.hid hw6
  have B_w6 := Lib.hid (Base.Below.nextA B_w5.out y_w6)
  have K_s_w6 := Lib.hid (K_s_w5.out.belowS y_w6)
  have x1_w6 := Lib.hid (x1_w5.out.below y_w6)
  have g_w6 := Lib.hid (g.out.below y_w6)
  have Y_w6 := Lib.hid (Base.Below.nextA Y_w5.out y_w6)
  have hs_w6 := (y_w6).size
  clear hw6 y_w6
  go_wp2_with fail
  rw [← HV_w6.out]
  refine (eqI_yes A_g A_s c_g c_s _ _ R w6 g_w6.out.rd (R3.out.below Y_w6.out (Nat.le_refl _)) (by omega)).mono ?_
  rintro e w7 ⟨rfl, n_w7, e_w7⟩
  have x_w7 : Below w6.heap.size w6 w7 := by rw [e_w7]; exact below_drewN (Below.refl _ _) _
  clear e_w7
  have B_w7 := Lib.hid (Base.Below.nextA B_w6.out x_w7)
  have K_s_w7 := Lib.hid (K_s_w6.out.belowS x_w7)
  have x1_w7 := Lib.hid (x1_w6.out.below x_w7)
  have g_w7 := Lib.hid (g_w6.out.below x_w7)
  have K_g_w7 := Lib.hid (K_g.out.belowS x_w7)
  have Y_w7 := Lib.hid (Base.Below.nextA Y_w6.out x_w7)
  have hs_w7 := (x_w7).size
  clear x_w7
  have ld00 := K_g_w7.out.at 0 (v := .int .i64 P) rfl
  have ld01 := K_g_w7.out.at 1 (v := .int .i64 Q) rfl
  have ld10 := K_s_w7.out.at 0 (v := .int .i64 P) rfl
  have ld11 := K_s_w7.out.at 1 (v := .int .i64 Q) rfl
  go_wp2_with fail
  refine (MemF.eqFraction_yes P Q _).mono ?_
  rintro e w8 ⟨rfl, x_w8⟩
  have B_w8 := Lib.hid (Base.Below.nextA B_w7.out x_w8)
  have K_s_w8 := Lib.hid (K_s_w7.out.belowS x_w8)
  have x1_w8 := Lib.hid (x1_w7.out.below x_w8)
  have g_w8 := Lib.hid (g_w7.out.below x_w8)
  have K_g_w8 := Lib.hid (K_g_w7.out.belowS x_w8)
  have Y_w8 := Lib.hid (Base.Below.nextA Y_w7.out x_w8)
  have hs_w8 := (x_w8).size
  clear x_w8 ld00 ld01 ld10 ld11
  go_wp2_with fail
  refine (CT1.out _ B_w8.out).mono ?_
  rintro e w9 ⟨g_u1, rfl, o_u1, b_w9⟩
  have B_w9 := Lib.hid (Base.Below.nextA B_w8.out b_w9)
  have K_s_w9 := Lib.hid (K_s_w8.out.belowS b_w9)
  have x1_w9 := Lib.hid (x1_w8.out.below b_w9)
  have g_w9 := Lib.hid (g_w8.out.below b_w9)
  have K_g_w9 := Lib.hid (K_g_w8.out.belowS b_w9)
  have Y_w9 := Lib.hid (Base.Below.nextA Y_w8.out b_w9)
  have hs_w9 := (b_w9).size
  have u1 := Lib.hid o_u1
  clear b_w9 o_u1
  go_wp2_with fail
  refine (MemF.eqF_yes _ _ _ _ _ _ n fs w9 x1_w9.out.rd u1.out.rd (by omega) (by omega) (by omega)).mono ?_
  rintro e w10 ⟨rfl, x_w10⟩
  have B_w10 := Lib.hid (Base.Below.nextA B_w9.out x_w10)
  have K_s_w10 := Lib.hid (K_s_w9.out.belowS x_w10)
  have x1_w10 := Lib.hid (x1_w9.out.below x_w10)
  have g_w10 := Lib.hid (g_w9.out.below x_w10)
  have K_g_w10 := Lib.hid (K_g_w9.out.belowS x_w10)
  have Y_w10 := Lib.hid (Base.Below.nextA Y_w9.out x_w10)
  have hs_w10 := (x_w10).size
  clear x_w10
  go_wp2_with fail
  refine (MemF.markF_any _ _ w3.heap.size (1) n fs w10 x1_w10.out (by omega)).mono ?_
  rintro e w11 ⟨rfl, q_w11, g_w11⟩
  have b_w11 : Below w3.heap.size w10 w11 := grown_below g_w11 (fun q hq => (ownsRow_block q_w11 hq).choose_spec.2.1) (by omega)
  have a_w11 : Above w4.heap.size w10 w11 := Above.grown g_w11 (fun q hq => (ownsRow_block x1.out hq).choose_spec.2.2)
  clear q_w11 g_w11
  have B_w11 := Lib.hid (B_w10.out.trans (b_w11.mono (by omega)))
  have Y_w11 := Lib.hid (Y_w10.out.trans (b_w11.mono (by omega)))
  have K_s_w11 := Lib.hid (Blk.Blk.below K_s_w10.out b_w11 (by omega))
  have g_w11 := Lib.hid (OwnI_above g_w10.out (fun g h1 h2 => a_w11 g (by omega) h2))
  have K_g_w11 : Hid (Blk.Blk w11 _ _ _) := Lib.hid ((a_w11 _ (by omega) (by omega)).trans K_g_w10.out)
  have hs_w11 := b_w11.size
  clear a_w11 b_w11
  have hkk : 1 + 2 * n ≤ 1099511627776 := by omega
  go_wp2_with fail
  refine (eqI_yes A_g A_s c_g c_s _ _ R w11 g_w11.out.rd (R3.out.below Y_w11.out (Nat.le_refl _)) (by omega)).mono ?_
  rintro e w12 ⟨rfl, n_w12, e_w12⟩
  have x_w12 : Below w11.heap.size w11 w12 := by rw [e_w12]; exact below_drewN (Below.refl _ _) _
  clear e_w12
  have B_w12 := Lib.hid (Base.Below.nextA B_w11.out x_w12)
  have K_s_w12 := Lib.hid (K_s_w11.out.belowS x_w12)
  have g_w12 := Lib.hid (g_w11.out.below x_w12)
  have K_g_w12 := Lib.hid (K_g_w11.out.belowS x_w12)
  have Y_w12 := Lib.hid (Base.Below.nextA Y_w11.out x_w12)
  have hs_w12 := (x_w12).size
  clear x_w12
  have ld00 := K_g_w12.out.at 0 (v := .int .i64 P) rfl
  have ld01 := K_g_w12.out.at 1 (v := .int .i64 Q) rfl
  have ld10 := K_s_w12.out.at 0 (v := .int .i64 P) rfl
  have ld11 := K_s_w12.out.at 1 (v := .int .i64 Q) rfl
  go_wp2_with fail
  refine (MemF.eqFraction_yes P Q _).mono ?_
  rintro e w13 ⟨rfl, x_w13⟩
  have B_w13 := Lib.hid (Base.Below.nextA B_w12.out x_w13)
  have K_s_w13 := Lib.hid (K_s_w12.out.belowS x_w13)
  have g_w13 := Lib.hid (g_w12.out.below x_w13)
  have K_g_w13 := Lib.hid (K_g_w12.out.belowS x_w13)
  have Y_w13 := Lib.hid (Base.Below.nextA Y_w12.out x_w13)
  have hs_w13 := (x_w13).size
  clear x_w13 ld00 ld01 ld10 ld11
  go_wp2_with fail
  refine (markI_any A_g c_g w4.heap.size 1 R.length R w13 rfl g_w13.out (by omega)).mono ?_
  rintro e w14 ⟨rfl, o_m, g_w14⟩
  have b_w14 : Below w4.heap.size w13 w14 := grown_below g_w14 (fun q hq => (ownsRow_block o_m hq).choose_spec.2.1) (by omega)
  clear g_w14
  have OM := Lib.hid o_m
  have B_w14 := Lib.hid (B_w13.out.trans (b_w14.mono (by omega)))
  have Y_w14 := Lib.hid (Y_w13.out.trans (b_w14.mono (by omega)))
  have hs_w14 := b_w14.size
  have b2_w14 := b_w14
  clear o_m b_w14
  have hkR : 1 + R.length ≤ 1099511627776 := by omega
  have K_s_w14 := Lib.hid (Blk.Blk.below K_s_w13.out b2_w14 (by omega))
  clear b2_w14
  go_wp2_with fail
  refine (heldI_yes A_g c_g _ 1 R.length w14 (by have := OM.out; exact OwnI_rdm this) (by omega)).mono ?_
  rintro e w' ⟨rfl, rfl⟩
  go_wp2_with fail
  refine (CT1.out _ B_w14.out).mono ?_
  rintro e w15 ⟨g_t1, rfl, o_t1, b_w15⟩
  have B_w15 := Lib.hid (Base.Below.nextA B_w14.out b_w15)
  have K_s_w15 := Lib.hid (K_s_w14.out.belowS b_w15)
  have Y_w15 := Lib.hid (Base.Below.nextA Y_w14.out b_w15)
  have Z_w15 := Lib.hid (b_w15)
  have hs_w15 := (b_w15).size
  have t1 := Lib.hid o_t1
  clear b_w15 o_t1
  go_wp2_with fail
  refine (HI.out _ _ w15.heap.size w15 t1.out.rd (Nat.le_refl _)).mono ?_
  rintro e w16 ⟨A_h, c_h, rfl, o_h, b_w16⟩
  have B_w16 := Lib.hid (Base.Below.nextA B_w15.out b_w16)
  have K_s_w16 := Lib.hid (K_s_w15.out.belowS b_w16)
  have Y_w16 := Lib.hid (Base.Below.nextA Y_w15.out b_w16)
  have Z_w16 := Lib.hid (Base.Below.nextA Z_w15.out b_w16)
  have hs_w16 := (b_w16).size
  have h := Lib.hid o_h
  clear b_w16 o_h
  obtain ⟨w17, hw17⟩ : ∃ V, V = w16.alloc (.cells #[.int .i64 P, .int .i64 Q] 43) := ⟨_, rfl⟩
  have y_w17 : Below w16.heap.size w16 w17 := by rw [hw17]; exact (Below.refl _ _).alloc (Nat.le_refl _) _
  have K_h : Hid (Blk.Blk w17 w16.heap.size 43 #[.int .i64 P, .int .i64 Q]) := Lib.hid (by rw [hw17]; exact Blk.Blk.new _ _ _)
  have hl_h := K_h.out.lt
  have HV_w17 := Lib.hid hw17
  have B_w17 := Lib.hid (Base.Below.nextA B_w16.out y_w17)
  have K_s_w17 := Lib.hid (K_s_w16.out.belowS y_w17)
  have h_w17 := Lib.hid (h.out.below y_w17)
  have Y_w17 := Lib.hid (Base.Below.nextA Y_w16.out y_w17)
  have Z_w17 := Lib.hid (Base.Below.nextA Z_w16.out y_w17)
  have hs_w17 := (y_w17).size
  clear hw17 y_w17
  go_wp2_with fail
  rw [← HV_w17.out]
  refine (eqI_yes A_h A_s c_h c_s _ _ R w17 h_w17.out.rd (R3.out.below Y_w17.out (Nat.le_refl _)) (by omega)).mono ?_
  rintro e w18 ⟨rfl, n_w18, e_w18⟩
  have x_w18 : Below w17.heap.size w17 w18 := by rw [e_w18]; exact below_drewN (Below.refl _ _) _
  clear e_w18
  have B_w18 := Lib.hid (Base.Below.nextA B_w17.out x_w18)
  have K_s_w18 := Lib.hid (K_s_w17.out.belowS x_w18)
  have h_w18 := Lib.hid (h_w17.out.below x_w18)
  have K_h_w18 := Lib.hid (K_h.out.belowS x_w18)
  have Y_w18 := Lib.hid (Base.Below.nextA Y_w17.out x_w18)
  have Z_w18 := Lib.hid (Base.Below.nextA Z_w17.out x_w18)
  have hs_w18 := (x_w18).size
  clear x_w18
  have ld00 := K_h_w18.out.at 0 (v := .int .i64 P) rfl
  have ld01 := K_h_w18.out.at 1 (v := .int .i64 Q) rfl
  have ld10 := K_s_w18.out.at 0 (v := .int .i64 P) rfl
  have ld11 := K_s_w18.out.at 1 (v := .int .i64 Q) rfl
  go_wp2_with fail
  refine (MemF.eqFraction_yes P Q _).mono ?_
  rintro e w19 ⟨rfl, x_w19⟩
  have B_w19 := Lib.hid (Base.Below.nextA B_w18.out x_w19)
  have K_s_w19 := Lib.hid (K_s_w18.out.belowS x_w19)
  have h_w19 := Lib.hid (h_w18.out.below x_w19)
  have K_h_w19 := Lib.hid (K_h_w18.out.belowS x_w19)
  have Y_w19 := Lib.hid (Base.Below.nextA Y_w18.out x_w19)
  have Z_w19 := Lib.hid (Base.Below.nextA Z_w18.out x_w19)
  have hs_w19 := (x_w19).size
  clear x_w19 ld00 ld01 ld10 ld11
  go_wp2_with fail
  refine (heldI_yes A_g c_g _ 1 R.length w19 (by have := (ownsRow_below OM.out Z_w19.out); exact OwnI_rdm this) (by omega)).mono ?_
  rintro e w' ⟨rfl, rfl⟩
  go_wp2
  go_ret
  exact ⟨rfl, B_w19.out⟩
theorem exactBest_v {w : World} {v : Value} (t : Int) (h' : Open.IsFracs w v) : Calls Tryz.prog 6 #[.int .i64 t, v] w fun e w' => e = .returned (.bool true) ∧ Below w.heap.size w w' := by
  obtain ⟨A', n, c', fs, rfl, hn, hf, hy⟩ := h'.ex
  exact exactBest_any A' c' t n fs w hn hf hy
end Go.Proofs.YtionognmgcabbaaGreat.BestL
/- The row's last step where the world behind the call is known by 'Below' alone: the arguments read as they read before, whatever their types. -/
namespace Go.Proofs.YtionognmgcabbaaGreat.Frame
open Go.RowKit Go.WideShapes Go.ChangeShapes Go.Joins
set_option linter.unusedVariables false
theorem laidOut : laidOutB Tryz.prog = true := by kernel_rfl
theorem own : ownKnob Tryz.prog.godebug = none := by kernel_rfl
section
variable {H : Type} {enc : TypeId × Value → H} {P : Program}
theorem trodAll_below (hl : laidOutB P = true) {W W' : World} (hb : Below W.heap.size W W') :
    ∀ {ts : List TypeId} {vs : List Value} {ds : List (DataW H)} {ps : List MemPlace}, (ts.all fun t => P.readableRec t && decide (t < P.types.size)) = true →
      DataW.TrodAll enc P W 0 (fun _ => true) true ts vs ds ps → (∀ x ∈ ps, x.block < W.heap.size) → DataW.TrodAll enc P W' 0 (fun b => decide (b < W.heap.size)) true ts vs ds ps
  | [], vs, ds, ps, _, h, _ => by
    obtain ⟨rfl, rfl, rfl⟩ := trodAll_nil h
    exact trodAll_mk0
  | t :: ts, vs, ds, ps, hr, h, hlt => by
    simp only [List.all_cons, Bool.and_eq_true, decide_eq_true_eq] at hr
    obtain ⟨v, vs', d, ds', p, q, rfl, rfl, rfl, h0, h1⟩ := trodAll_cons h
    exact trodAll_cons_mk (Below.trod hl hr.1.1 hr.1.2 h0 hb fun x hx => hlt x (List.mem_append.2 (.inl hx))) (trodAll_below hl hb hr.2 h1 fun x hx => hlt x (List.mem_append.2 (.inr hx)))
theorem post_below {f : Func} {s : ChangeSpec} {apart fresh handsOn : Bool} {W W' : World} {args : Array Value} {v : Value} {ds : List (DataW H)} {before : List MemPlace}
    (hvars0 : s.vars = []) (hl : laidOutB P = true) (hr : (f.params.toList.all fun t => P.readableRec t && decide (t < P.types.size)) = true)
    (hW : DataW.Whole enc P f.params.toList s.vars apart W args.toList ds [] before)
    (hA : DataW.TrodAll enc P W 0 (fun _ => true) true f.params.toList args.toList ds before)
    (hargs : (s.fn H (ds ++ [])).args = ds) (hvars : (s.fn H (ds ++ [])).vars = [])
    (hres : ∀ (b : Nat) (sp : Nat → Bool) (hd : Bool), DataW.TrodAll enc P W' b sp hd f.resultTypes.toList (v.resultList f.resultTypes.size) (s.fn H (ds ++ [])).results [])
    (hb : Below W.heap.size W W') : s.post enc P f apart fresh handsOn false W args v W' := by
  have hlt : ∀ p ∈ before, p.block < W.heap.size := fun p hp => hW.lt p hp
  have hA' := trodAll_below (enc := enc) hl hb hr hA hlt
  refine ⟨ds, [], before, [], before, [], hW, hres _ _ _, ?_, ?_, World.keptBut_mono (fun p hp => ⟨hp, ?_⟩) (hb.frame (· ∈ before)), fun h => by cases h⟩
  · rw [hargs]; exact hA'
  · rw [hvars, hvars0]; exact rfl
  · right; simpa using hp
end
end Go.Proofs.YtionognmgcabbaaGreat.Frame

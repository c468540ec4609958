/- The program: a law from its counts. -/
import Derived.Test.YtgipnbeipfhekaaGreatDoorMgFnL15
import Derived.Test.YtgipnbeipfhekaaGreatDoorMgFnL08
import Derived.Test.YtgipnbeipfhekaaGreatDoorMgFnL06
import Derived.Test.YtgipnbeipfhekaaGreatDoorMgFnL13
import Derived.Test.YtgipnbeipfhekaaGreatDoorMgFnL07
import Derived.Deep.Cut
import Derived.Test.YtgipnbeipfhekaaGreatDoorMgFnL00
set_option linter.unusedVariables false
set_option linter.unusedSimpArgs false
set_option maxRecDepth 100000
set_option maxHeartbeats 4000000
namespace Go.Proofs.YtgipnbeipfhekaaGreatDoor
namespace LpW
open Go.RowKit Base Mem MemF GiveM RatM Ratio LvM LvQ LvO LvT Blk
theorem blkKept {w w' : World} {B' n' size' b : Nat} {e' t : TypeId} {cs : Array Value} {v' : Value} {xs' : List Value} (h : Blk w b t cs) (h' : w.ownsRow B' e' size' v' n' xs') (he : t ≠ e') (hg : w.grownBy w' v'.ownBlock) : Blk w' b t cs := by
 refine h.kept hg fun hh => ?_
 obtain ⟨cur', h2, _⟩ := ownsRow_block h' hh
 unfold Blk at h
 rw [h] at h2
 injection h2 with h2
 injection h2 with _ h3
 exact he h3
def LoRel (C : Cnt) (n : Nat) (w : World) (iv : Value) (wr : World) : Prop :=
 ∃ k v1 v2, k ≤ C.many ∧ iv = .int .i64 (k : Int) ∧ Hid (Blk wr w.heap.size 60 #[.slice none 0 0, .slice none 0 0]) ∧ Hid (Blk wr (w.heap.size + 1) 60 #[v1, v2]) ∧ Hid (OwnI wr (w.heap.size + 2) v1 (fl k (vD C))) ∧ Hid (OwnF wr (w.heap.size + 2) v2 k (outF (fD C n) k)) ∧ Hid (Below w.heap.size w wr)
theorem lo_first {C : Cnt} {n k b0 c1 c2 : Nat} {A1 A2 : Option Addr} {v' : Value} {W Wx w3 : World} (hO : OwnI W (b0 + 2) (.slice A1 k c1) (fl k (vD C))) (hF : OwnF W (b0 + 2) (.slice A2 k c2) k (outF (fD C n) k)) (hz : b0 + 2 ≤ W.heap.size) (hx : Below W.heap.size W Wx)
  (hown : w3.ownsRow (b0 + 2) 2 1 v' (k + 1) (ints (fl k (vD C)) ++ [.int .i64 ((vD C k : Nat) : Int)])) (hg : Wx.grownBy w3 (Value.slice A1 k c1).ownBlock) :
  OwnI w3 (b0 + 2) v' (fl (k + 1) (vD C)) ∧ OwnF w3 (b0 + 2) (.slice A2 k c2) k (outF (fD C n) k) ∧ Below (b0 + 2) W w3 ∧ ∀ b cs, Blk Wx b 49 cs → Blk w3 b 49 cs := by
 obtain ⟨p1, p2⟩ := nextI hz hO (Below.refl (b0 + 2) W) hx hown hg
 exact ⟨p1, rowKept (ownsRow_below hF hx) (OwnI.below hO hx) (by decide) hg, p2, fun b cs h => blkKept h (OwnI.below hO hx) (by decide) hg⟩
theorem lo_second {C : Cnt} {n k b0 c2 bf : Nat} {A2 : Option Addr} {u1 va vb : Value} {w W5 Wy w6 : World} {cf : Array Value} (hK : Blk W5 (b0 + 1) 60 #[u1, .slice A2 k c2]) (hR : Blk W5 b0 60 #[.slice none 0 0, .slice none 0 0]) (hO : OwnI W5 (b0 + 2) va (fl (k + 1) (vD C))) (hF : OwnF W5 (b0 + 2) (.slice A2 k c2) k (outF (fD C n) k)) (hB : Below b0 w W5) (hz : b0 + 2 ≤ W5.heap.size) (h4 : Below W5.heap.size W5 Wy)
  (hown : w6.ownsRow (b0 + 2) 49 2 vb (k + 1) (ints (outF (fD C n) k) ++ [.int .i64 (numQ (fD C n k)), .int .i64 (denQ (fD C n k))])) (hg : Wy.grownBy w6 (Value.slice A2 k c2).ownBlock) (hkf : Blk W5 bf 49 cf) (hne : (Value.slice A2 k c2).ownBlock ≠ some bf) :
  (Blk w6 (b0 + 1) 60 #[u1, .slice A2 k c2] ∧ Blk w6 bf 49 cf) ∧ (w6.cell? ⟨b0 + 1, 0, none⟩ = some u1 ∧ w6.frozen? ⟨b0 + 1, 0, none⟩ = false ∧ w6.cell? ⟨b0 + 1, 1, none⟩ = some (.slice A2 k c2) ∧ w6.frozen? ⟨b0 + 1, 1, none⟩ = false) ∧
  Hid (Blk ((w6.setCell ⟨b0 + 1, 0, none⟩ va).setCell ⟨b0 + 1, 1, none⟩ vb) b0 60 #[.slice none 0 0, .slice none 0 0] ∧ Blk ((w6.setCell ⟨b0 + 1, 0, none⟩ va).setCell ⟨b0 + 1, 1, none⟩ vb) (b0 + 1) 60 #[va, vb] ∧ OwnI ((w6.setCell ⟨b0 + 1, 0, none⟩ va).setCell ⟨b0 + 1, 1, none⟩ vb) (b0 + 2) va (fl (k + 1) (vD C)) ∧ OwnF ((w6.setCell ⟨b0 + 1, 0, none⟩ va).setCell ⟨b0 + 1, 1, none⟩ vb) (b0 + 2) vb (k + 1) (outF (fD C n) (k + 1)) ∧ Below b0 w ((w6.setCell ⟨b0 + 1, 0, none⟩ va).setCell ⟨b0 + 1, 1, none⟩ vb)) := by
 have P2 : Below (b0 + 2) W5 w6 := pushB hF hz h4 hg
 have P3 := rowKept (OwnI.below hO h4) (ownsRow_below hF h4) (by decide) hg
 have K6 := hK.below P2 (by omega)
 exact ⟨⟨K6, (hkf.belowS h4).kept hg hne⟩, ⟨K6.at 0 (v := u1) rfl, K6.frz 0, K6.at 1 (v := .slice A2 k c2) rfl, K6.frz 1⟩, J ⟨((hR.below P2 (by omega)).other _ (by simp)).other _ (by simp), (K6.setTo 0 va rfl).setTo 1 vb rfl,
  ownsRow_setCell_below (ownsRow_setCell_below P3 (a := ⟨b0 + 1, 0, none⟩) (by simp) va) (a := ⟨b0 + 1, 1, none⟩) (by simp) vb, ownsRow_setCell_below (ownsRow_setCell_below (pushFr hown) (a := ⟨b0 + 1, 0, none⟩) (by simp) va) (a := ⟨b0 + 1, 1, none⟩) (by simp) vb,
  ((hB.trans (P2.mono (by omega))).setCell (p := ⟨b0 + 1, 0, none⟩) (Nat.le_succ _) va).setCell (p := ⟨b0 + 1, 1, none⟩) (Nat.le_succ _) vb⟩⟩
theorem nw2 (w : World) (E X : Obj) : ((w.alloc X).alloc E).heap[w.heap.size]? = some X := (Below.heap_alloc (w.alloc X) E _ (by simp)).trans (heap_alloc_new w X)
theorem lawOf_d {A : Option Addr} {c B n M : Nat} {C : Cnt} (hC : C.ok n) (hn : n ≤ 50) (hM : M = 2 ^ n) (w : World) (hx : RdI w B A (fl C.many C.c)) (hB : B ≤ w.heap.size) :
  Calls Tryz.prog 95 #[.int .i64 (C.first : Int), .slice A C.many c, .int .i64 (M : Int)] w (LawRet C n w) := by
 obtain ⟨i0, hi, hz0, hz1, hz2⟩ := info_parts infoI
 obtain ⟨i2, ki, kz0, kz1, kz2⟩ := info_parts infoFr
 have HC := J hC
 have hN60 : C.many ≤ 51 := by have := hC.2.1; omega
 have hf1 := hC.1
 have HQ := J (fun k (hk : k < C.many) W => LpQ.quo_d (hC.2.2.1 k hk) (Cnt.one_le hC hk) hn hM W)
 have HX := J hx
 obtain ⟨W2, hW2⟩ : ∃ W2, W2 = (w.alloc (.cells #[.slice none 0 0, .slice none 0 0] 60)).alloc (.cells #[.slice none 0 0, .slice none 0 0] 60) := ⟨_, rfl⟩
 have H0 : Hid (LoRel C n w (.int .i64 0) W2) := J (by
  rw [hW2]
  exact ⟨0, .slice none 0 0, .slice none 0 0, Nat.zero_le _, rfl, J ((Blk.new w _ _).alloc _), J (Blk.newAt _ _ (by simp)), J (World.ownsRow_nil _ _ _ _), J (World.ownsRow_nil _ _ _ _), J (((Below.refl _ _).alloc (Nat.le_refl _) _).alloc (by simp) _)⟩)
 have HW := J hW2
 clear hx hW2 hM hC
 go_enter Tryz.func95, Tryz.ntmps95
 go_wp2
 rw [← HW.out]
 go_loopw [15] (fun iv wr => LoRel C n w iv wr) (fun iv _ => C.many - (intOf iv).toNat)
 case atStart => exact H0.out
 case round =>
  obtain ⟨k, v1, v2, hkN, rfl, KR, KB, HO, HF, HBr⟩ := hrel
  obtain ⟨wp, rfl⟩ : ∃ x, x = wr := ⟨_, rfl⟩
  clear H0
  obtain ⟨A1, c1, e5, _⟩ := HO.out.form
  rw [fl_len] at e5
  obtain ⟨A2, c2, e6, _⟩ := HF.out.form
  subst e5
  subst e6
  have HA2 : Hid (∀ g, (Value.slice A2 k c2).ownBlock = some g → g < wp.heap.size) := J (fun g hg => by obtain ⟨_, _, _, h4⟩ := ownsRow_block HF.out hg; exact h4)
  by_cases hlt : k < C.many
  ·obtain ⟨b, off, rfl, hb2, hcc⟩ := (HX.out.below HBr.out hB) (by rw [fl_len]; omega)
   have g1 := hcc k (by rw [fl_len]; exact hlt)
   rw [fl_at _ hlt] at g1
   clear hcc
   have hpos := HC.out.2.2.1 k hlt
   have hle := Cnt.one_le HC.out hlt
   have HQk := J (HQ.out k hlt)
   have HSm := J (dy_small hle hn)
   have hfd : dy n (C.c k) = fD C n k := rfl
   rw [hfd] at HQk HSm
   have hx50 : (2 : Nat) ^ n ≤ 2 ^ 50 := Nat.pow_le_pow_right (by decide) hn
   have hc50 : C.c k ≤ 1125899906842624 := by omega
   obtain ⟨x, hx⟩ : ∃ x, x = C.c k := ⟨_, rfl⟩
   rw [← hx] at g1 hpos HQk hc50
   clear hx hfd hle hx50
   go_wp2_with fail
   refine (HQk.out _).mono ?_
   rintro e w3 h
   obtain ⟨v, rfl, hv, hb3⟩ := h.is
   have HFr := J (ratFraction w3 hv)
   have HB3 := J hb3
   clear h hv hb3 HQk
   rw [HSm.out] at HFr
   go_wp2_with fail
   refine HFr.out.mono ?_
   rintro e w4 ⟨rfl, hb4⟩
   have hb5 := Base.Below.nextA HB3.out hb4
   obtain ⟨W, hW⟩ : ∃ W, W = w4.alloc (.cells #[.int .i64 (numQ (fD C n k)), .int .i64 (denQ (fD C n k))] 49) := ⟨_, rfl⟩
   have hb6 : Below wp.heap.size wp W := by rw [hW]; exact hb5.alloc hb5.size _
   have KF : Hid (Blk W w4.heap.size 49 #[.int .i64 (numQ (fD C n k)), .int .i64 (denQ (fD C n k))]) := J (by rw [hW]; exact Blk.new w4 _ _)
   have hwz0 : w.heap.size + 1 < wp.heap.size := KB.out.lt
   have hwz : w.heap.size + 2 ≤ W.heap.size := by have := hb6.size; omega
   have HB6 := J (Base.Below.nextA HBr.out hb6)
   replace KR := J (KR.out.belowS hb6)
   replace KB := J (KB.out.belowS hb6)
   replace HO := J (OwnI.below HO.out hb6)
   replace HF := J (OwnF.below HF.out hb6)
   have HW6 := J hW
   have HNE : Hid ((Value.slice A2 k c2).ownBlock ≠ some w4.heap.size) := J (fun h => by have h1 := HA2.out _ h; have := hb5.size; omega)
   clear HA2
   clear hb4 hb5 hb6 hW HFr HB3 HBr g1 hwz0
   go_wp2_with fail
   rw [← HW6.out]
   clear HW6
   obtain ⟨x1, hx1⟩ : ∃ x, x = numQ (fD C n k) := ⟨_, rfl⟩
   obtain ⟨x2, hx2⟩ : ∃ x, x = denQ (fD C n k) := ⟨_, rfl⟩
   rw [← hx1, ← hx2] at KF
   have HXE := J (And.intro hx1 hx2)
   obtain ⟨z, hz⟩ : ∃ z, z = ((vD C k : Nat) : Int) := ⟨_, rfl⟩
   have HZ := J hz
   have hw1 : IntKind.i64.wrap ((C.first : Int) + (k : Int)) = z := by rw [hz, IntKind.wrap_i64]; unfold vD; omega
   have hk60 : k ≤ 60 := by omega
   have d0 := KB.out.at 0 (v := .slice A1 k c1) rfl
   have d1 := KB.out.at 1 (v := .slice A2 k c2) rfl
   have f0 := KF.out.at 0 (v := .int .i64 x1) rfl
   have f1 := KF.out.at 1 (v := .int .i64 x2) rfl
   have lF := KF.out.lt
   have lB := KB.out.lt
   have lB2 : w.heap.size < W.heap.size := by omega
   have lF2 : w4.heap.size < W.heap.size + 1 := by omega
   have lB3 : w.heap.size + 1 < W.heap.size + 1 := by omega
   have hra := World.ownsRow.alloc HO.out (.cells #[.int .i64 z] 2)
   have hrb := World.ownsRow.alloc (World.ownsRow.alloc HO.out (.cells #[.int .i64 x1, .int .i64 x2] 49)) (.cells #[.int .i64 z] 2)
   have hrc := World.ownsRow.alloc (World.ownsRow.alloc HO.out (.cells #[.int .i64 z] 2)) (.cells #[.int .i64 x1, .int .i64 x2] 49)
   rw [fl_len] at hra hrb hrc
   have HWa := J hra
   have HWb := J hrb
   have HWc := J hrc
   have HN : Hid (∀ u1 u2 w8, (Blk w8 w.heap.size 60 #[.slice none 0 0, .slice none 0 0] ∧ Blk w8 (w.heap.size + 1) 60 #[u1, u2] ∧ OwnI w8 (w.heap.size + 2) u1 (fl (k + 1) (vD C)) ∧ OwnF w8 (w.heap.size + 2) u2 (k + 1) (outF (fD C n) (k + 1)) ∧ Below w.heap.size w w8) → LoRel C n w (.int .i64 ((k : Int) + 1)) w8) := J fun u1 u2 w8 h => ⟨k + 1, u1, u2, hlt, by simp, J h.1, J h.2.1, J h.2.2.1, J h.2.2.2.1, J h.2.2.2.2⟩
   clear hx1 hx2 hz hra hrb hrc HSm hpos hc50
   obtain ⟨S, hSE⟩ : ∃ S : World → Prop, S = fun w' => w'.cell? ⟨w.heap.size + 1, 0, none⟩ = some (.slice A1 k c1) ∧ w'.cell? ⟨w.heap.size + 1, 1, none⟩ = some (.slice A2 k c2) ∧ w'.cell? ⟨w4.heap.size, 0, none⟩ = some (.int .i64 x1) ∧ w'.cell? ⟨w4.heap.size, 1, none⟩ = some (.int .i64 x2) := ⟨_, rfl⟩
   have HSE := J hSE
   have HSA : Hid (∀ V, Blk V (w.heap.size + 1) 60 #[.slice A1 k c1, .slice A2 k c2] → Blk V w4.heap.size 49 #[.int .i64 x1, .int .i64 x2] → S V) := J (fun V h1 h2 => by rw [hSE]; exact ⟨h1.at 0 rfl, h1.at 1 rfl, h2.at 0 rfl, h2.at 1 rfl⟩)
   clear hSE
   refine Late.start S [13, 14, 15] 16 (by kernel_rfl) (HSA.out _ KB.out KF.out) rfl (fun hS => ?_)
   clear d0 d1 f0 f1
   refine Late.take (i := 0) (v := ?_) (by rfl) (by kernel_rfl) (by kernel_rfl) (by kernel_rfl) (by intro _ _ _ h; exact h) (by kernel_rfl) (by kernel_rfl) (Or.inl ⟨by rfl, ?_⟩) hS ?_
   rotate_left
   ·(intro W' hW'; rw [HSE.out] at hW'; obtain ⟨q0, q1, q2, q3⟩ := hW'; go_simp; (try with_reducible rfl))
   try simp only [Act.put, List.setIfInBounds_toArray, List.set_cons_zero, List.set_cons_succ]
   refine Late.take (i := 1) (v := ?_) (by rfl) (by kernel_rfl) (by kernel_rfl) (by kernel_rfl) (by intro _ _ _ h; exact h) (by kernel_rfl) (by kernel_rfl) (Or.inl ⟨by rfl, ?_⟩) hS ?_
   rotate_left
   ·(intro W' hW'; rw [HSE.out] at hW'; obtain ⟨q0, q1, q2, q3⟩ := hW'; go_simp; (try with_reducible rfl))
   try simp only [Act.put, List.setIfInBounds_toArray, List.set_cons_zero, List.set_cons_succ]
   refine Late.take (i := 2) (v := ?_) (by rfl) (by kernel_rfl) (by kernel_rfl) (by kernel_rfl) (by intro _ _ _ h; exact h) (by kernel_rfl) (by kernel_rfl) (Or.inl ⟨by rfl, ?_⟩) hS ?_
   rotate_left
   ·(intro W' hW'; rw [HSE.out] at hW'; obtain ⟨q0, q1, q2, q3⟩ := hW'; go_simp; (try with_reducible rfl))
   try simp only [Act.put, List.setIfInBounds_toArray, List.set_cons_zero, List.set_cons_succ]
   refine Late.take (i := 3) (v := ?_) (by rfl) (by kernel_rfl) (by kernel_rfl) (by kernel_rfl) (by intro _ _ _ h; exact h) (by kernel_rfl) (by kernel_rfl) (Or.inl ⟨by rfl, ?_⟩) hS ?_
   rotate_left
   ·(intro W' hW'; rw [HSE.out] at hW'; obtain ⟨q0, q1, q2, q3⟩ := hW'; go_simp; (try with_reducible rfl))
   try simp only [Act.put, List.setIfInBounds_toArray, List.set_cons_zero, List.set_cons_succ]
   refine Late.take (i := 4) (v := ?_) (by rfl) (by kernel_rfl) (by kernel_rfl) (by kernel_rfl) (by intro _ _ _ h; exact h) (by kernel_rfl) (by kernel_rfl) (Or.inl ⟨by rfl, ?_⟩) hS ?_
   rotate_left
   ·(intro W' hW'; rw [HSE.out] at hW'; obtain ⟨q0, q1, q2, q3⟩ := hW'; go_simp; (try with_reducible rfl))
   try simp only [Act.put, List.setIfInBounds_toArray, List.set_cons_zero, List.set_cons_succ]
   refine Late.take (i := 7) (v := ?_) (by rfl) (by kernel_rfl) (by kernel_rfl) (by kernel_rfl) (by intro _ _ _ h; exact h) (by kernel_rfl) (by kernel_rfl) (Or.inl ⟨by rfl, ?_⟩) hS ?_
   rotate_left
   ·(intro W' hW'; rw [HSE.out] at hW'; obtain ⟨q0, q1, q2, q3⟩ := hW'; go_simp; (try with_reducible rfl))
   try simp only [Act.put, List.setIfInBounds_toArray, List.set_cons_zero, List.set_cons_succ]
   refine Late.take (i := 8) (v := ?_) (by rfl) (by kernel_rfl) (by kernel_rfl) (by kernel_rfl) (by intro _ _ _ h; exact h) (by kernel_rfl) (by kernel_rfl) (Or.inl ⟨by rfl, ?_⟩) hS ?_
   rotate_left
   ·(intro W' hW'; rw [HSE.out] at hW'; obtain ⟨q0, q1, q2, q3⟩ := hW'; go_simp; (try with_reducible rfl))
   try simp only [Act.put, List.setIfInBounds_toArray, List.set_cons_zero, List.set_cons_succ]
   refine Late.take (i := 9) (v := ?_) (by rfl) (by kernel_rfl) (by kernel_rfl) (by kernel_rfl) (by intro _ _ _ h; exact h) (by kernel_rfl) (by kernel_rfl) (Or.inl ⟨by rfl, ?_⟩) hS ?_
   rotate_left
   ·(intro W' hW'; rw [HSE.out] at hW'; obtain ⟨q0, q1, q2, q3⟩ := hW'; go_simp; (try with_reducible rfl))
   try simp only [Act.put, List.setIfInBounds_toArray, List.set_cons_zero, List.set_cons_succ]
   refine Late.two (i := 5) (i' := 10) (by kernel_rfl) (by rfl) (by rfl) (fun K hK => ?_) (fun K hK => ?_)
   ·go_simp
    refine hK.out _ _ (fun _ => HSA.out _ (KB.out.alloc _) (KF.out.alloc _)) (fun hS' => ?_)
    have hS := hS' (by decide)
    clear hS' hK
    clear K
    try simp only [Act.put, List.setIfInBounds_toArray, List.set_cons_zero, List.set_cons_succ]
    refine Late.two (i := 6) (i' := 10) (by kernel_rfl) (by rfl) (by rfl) (fun K hK => ?_) (fun K hK => ?_)
    ·(refine step_append_lies _ (by rfl) _ _ _ (by rfl) (w.heap.size + 2) 2 i0 _ 1 8 Tryz.underlying43 hi hz0 hz1 hz2 rfl (by omega) (.slice A1 k c1) k _ (by rfl) ((HWa.out).drew) ⟨W.heap.size, 0, none⟩ 1 1 [.int .i64 z] (by rfl) (by rfl) (World.news_of_block (cs := #[.int .i64 z]) (t := 2) (fr := (0, 0)) (heap_alloc_new W _)) one_int (by omega) (by simp only [maxLen]; omega) (by omega) (by first | omega | (simp; omega)) (W.heap.size + 1) (by simp) ?_; intro gg cap w5 hown1 hg1 hat1 hlt1; have q3 : Below W.heap.size W ((W.alloc (.cells #[.int .i64 z] 2)).drew) := (((Below.refl _ _).alloc (Nat.le_refl _) _).drew); obtain ⟨p1, p2, p3, p4⟩ := lo_first HO.out HF.out hwz q3 (by rw [← HZ.out]; exact hown1) hg1; have KB5 := J (KB.out.below p3 (by omega)); have KR5 := J (KR.out.below p3 (by omega)); have KF5 := J (p4 _ _ (KF.out.belowS q3)); have t0 := KB5.out.at 0 (v := .slice A1 k c1) rfl; have t1 := KB5.out.at 1 (v := .slice A2 k c2) rfl; have y0 := KF5.out.at 0 (v := .int .i64 x1) rfl; have y1 := KF5.out.at 1 (v := .int .i64 x2) rfl; have l0 := KB5.out.lt; have l1 := KF5.out.lt; have HO5 := J p1; have HF5 := J p2; have HB5 := J (HB6.out.trans (p3.mono (by omega : w.heap.size ≤ w.heap.size + 2))); have hs5 := p3.size; have hz5 : w.heap.size + 2 ≤ w5.heap.size := Nat.le_trans hwz hs5; skip; clear hown1 hg1 hat1 p1 p2 p3 p4 q3)
     refine hK.out _ _ (fun _ => HSA.out _ (KB5.out) (KF5.out)) (fun hS' => ?_)
     have hS := hS' (by decide)
     clear hS' hK
     clear K
     try simp only [Act.put, List.setIfInBounds_toArray, List.set_cons_zero, List.set_cons_succ]
     refine Late.take (i := 12) (v := ?_) (by rfl) (by kernel_rfl) (by kernel_rfl) (by kernel_rfl) (by intro _ _ _ h; exact h) (by kernel_rfl) (by kernel_rfl) (Or.inl ⟨by rfl, ?_⟩) hS ?_
     rotate_left
     ·(intro W' hW'; rw [HSE.out] at hW'; obtain ⟨q0, q1, q2, q3⟩ := hW'; go_simp; (try with_reducible rfl))
     try simp only [Act.put, List.setIfInBounds_toArray, List.set_cons_zero, List.set_cons_succ]
     refine Late.one (i := 10) (by kernel_rfl) (by rfl) (fun K hK => ?_)
     go_simp
     refine hK.out _ _ (fun _ => HSA.out _ (KB5.out.alloc _) (KF5.out.alloc _)) (fun hS' => ?_)
     have hS := hS' (by decide)
     clear hS' hK
     clear K
     try simp only [Act.put, List.setIfInBounds_toArray, List.set_cons_zero, List.set_cons_succ]
     refine Late.one (i := 11) (by kernel_rfl) (by rfl) (fun K hK => ?_)
     (refine step_append_lies _ (by rfl) _ _ _ (by rfl) (w.heap.size + 2) 49 i2 _ 2 16 Tryz.underlying38 ki kz0 kz1 kz2 rfl (by omega) (.slice A2 k c2) k _ (by rfl) (World.ownsRow.alloc HF5.out _) ⟨w5.heap.size, 0, none⟩ 1 1 [.int .i64 x1, .int .i64 x2] (by rfl) (by rfl) (World.news_of_block (cs := #[.int .i64 x1, .int .i64 x2]) (t := 49) (fr := (0, 0)) (heap_alloc_new w5 _)) ones_two (by omega) (by simp only [maxLen]; omega) (by omega) (by first | omega | (simp only [World.size_alloc]; omega)) (w5.heap.size + 1) (by simp) ?_; intro gg2 cap2 w6 hown2 hg2 hat2 hlt2; rw [HXE.out.1, HXE.out.2] at hown2; obtain ⟨⟨KB6, KF6⟩, ⟨s0, s1, s2, s3⟩, HFN⟩ := lo_second KB5.out KR5.out HO5.out HF5.out HB5.out hz5 ((Below.refl _ _).alloc (Nat.le_refl _) _) hown2 hg2 KF5.out HNE.out; clear hown2 hg2 hat2 t0 t1 y0 y1)
     refine hK.out _ _ (fun _ => HSA.out _ (KB6) (KF6)) (fun hS' => ?_)
     have hS := hS' (by decide)
     clear hS' hK
     clear K
     try simp only [Act.put, List.setIfInBounds_toArray, List.set_cons_zero, List.set_cons_succ]
     refine Late.one (i := 13) (by kernel_rfl) (by rfl) (fun K hK => ?_)
     go_simp
     refine hK.out _ _ (fun h => absurd h (by decide)) (fun _ => ?_)
     clear hK
     clear K
     try simp only [Act.put, List.setIfInBounds_toArray, List.set_cons_zero, List.set_cons_succ]
     refine Late.one (i := 14) (by kernel_rfl) (by rfl) (fun K hK => ?_)
     go_simp
     refine hK.out _ _ (fun h => absurd h (by decide)) (fun _ => ?_)
     clear hK
     clear K
     try simp only [Act.put, List.setIfInBounds_toArray, List.set_cons_zero, List.set_cons_succ]
     refine Late.one (i := 15) (by kernel_rfl) (by rfl) (fun K hK => ?_)
     go_simp
     refine hK.out _ _ (fun h => absurd h (by decide)) (fun _ => ?_)
     clear hK
     clear K
     try simp only [Act.put, List.setIfInBounds_toArray, List.set_cons_zero, List.set_cons_succ]
     refine Late.done (by kernel_rfl) ?_ _
     clear s0 s1 s2 s3 hS
     go_wp2
     go_roundw
     case rel => exact HN.out _ _ _ HFN.out
     case measure => simp [intOf]; omega
    ·go_simp
     refine hK.out _ _ (fun _ => HSA.out _ ((KB.out.alloc _).alloc _) ((KF.out.alloc _).alloc _)) (fun hS' => ?_)
     have hS := hS' (by decide)
     clear hS' hK
     clear K
     try simp only [Act.put, List.setIfInBounds_toArray, List.set_cons_zero, List.set_cons_succ]
     refine Late.one (i := 6) (by kernel_rfl) (by rfl) (fun K hK => ?_)
     (refine step_append_lies _ (by rfl) _ _ _ (by rfl) (w.heap.size + 2) 2 i0 _ 1 8 Tryz.underlying43 hi hz0 hz1 hz2 rfl (by omega) (.slice A1 k c1) k _ (by rfl) ((HWc.out).drew) ⟨W.heap.size, 0, none⟩ 1 1 [.int .i64 z] (by rfl) (by rfl) (World.news_of_block (cs := #[.int .i64 z]) (t := 2) (fr := (0, 0)) (nw2 W _ _)) one_int (by omega) (by simp only [maxLen]; omega) (by omega) (by first | omega | (simp; omega)) (W.heap.size + 2) (by simp) ?_; intro gg cap w5 hown1 hg1 hat1 hlt1; have q3 : Below W.heap.size W (((W.alloc (.cells #[.int .i64 z] 2)).alloc (.cells #[.int .i64 x1, .int .i64 x2] 49)).drew) := ((((Below.refl _ _).alloc (Nat.le_refl _) _).alloc (by simp) _).drew); obtain ⟨p1, p2, p3, p4⟩ := lo_first HO.out HF.out hwz q3 (by rw [← HZ.out]; exact hown1) hg1; have KB5 := J (KB.out.below p3 (by omega)); have KR5 := J (KR.out.below p3 (by omega)); have KF5 := J (p4 _ _ (KF.out.belowS q3)); have t0 := KB5.out.at 0 (v := .slice A1 k c1) rfl; have t1 := KB5.out.at 1 (v := .slice A2 k c2) rfl; have y0 := KF5.out.at 0 (v := .int .i64 x1) rfl; have y1 := KF5.out.at 1 (v := .int .i64 x2) rfl; have l0 := KB5.out.lt; have l1 := KF5.out.lt; have HO5 := J p1; have HF5 := J p2; have HB5 := J (HB6.out.trans (p3.mono (by omega : w.heap.size ≤ w.heap.size + 2))); have hs5 := p3.size; have hz5 : w.heap.size + 2 ≤ w5.heap.size := Nat.le_trans hwz hs5; (have KN := J (p4 (W.heap.size + 1) #[.int .i64 x1, .int .i64 x2] (by have := heap_alloc_new (W.alloc (.cells #[.int .i64 z] 2)) (.cells #[.int .i64 x1, .int .i64 x2] 49); rwa [World.size_alloc] at this))); clear hown1 hg1 hat1 p1 p2 p3 p4 q3)
     refine hK.out _ _ (fun _ => HSA.out _ (KB5.out) (KF5.out)) (fun hS' => ?_)
     have hS := hS' (by decide)
     clear hS' hK
     clear K
     try simp only [Act.put, List.setIfInBounds_toArray, List.set_cons_zero, List.set_cons_succ]
     refine Late.take (i := 12) (v := ?_) (by rfl) (by kernel_rfl) (by kernel_rfl) (by kernel_rfl) (by intro _ _ _ h; exact h) (by kernel_rfl) (by kernel_rfl) (Or.inl ⟨by rfl, ?_⟩) hS ?_
     rotate_left
     ·(intro W' hW'; rw [HSE.out] at hW'; obtain ⟨q0, q1, q2, q3⟩ := hW'; go_simp; (try with_reducible rfl))
     try simp only [Act.put, List.setIfInBounds_toArray, List.set_cons_zero, List.set_cons_succ]
     refine Late.one (i := 11) (by kernel_rfl) (by rfl) (fun K hK => ?_)
     (refine step_append_lies _ (by rfl) _ _ _ (by rfl) (w.heap.size + 2) 49 i2 _ 2 16 Tryz.underlying38 ki kz0 kz1 kz2 rfl (by omega) (.slice A2 k c2) k _ (by rfl) (HF5.out) ⟨(W.heap.size + 1), 0, none⟩ 1 1 [.int .i64 x1, .int .i64 x2] (by rfl) (by rfl) (World.news_of_block (cs := #[.int .i64 x1, .int .i64 x2]) (t := 49) (fr := (0, 0)) (KN.out)) ones_two (by omega) (by simp only [maxLen]; omega) (by omega) (by first | omega | (simp only [World.size_alloc]; omega)) (w5.heap.size) (by simp) ?_; intro gg2 cap2 w6 hown2 hg2 hat2 hlt2; rw [HXE.out.1, HXE.out.2] at hown2; obtain ⟨⟨KB6, KF6⟩, ⟨s0, s1, s2, s3⟩, HFN⟩ := lo_second KB5.out KR5.out HO5.out HF5.out HB5.out hz5 (Below.refl _ _) hown2 hg2 KF5.out HNE.out; clear hown2 hg2 hat2 t0 t1 y0 y1)
     refine hK.out _ _ (fun _ => HSA.out _ (KB6) (KF6)) (fun hS' => ?_)
     have hS := hS' (by decide)
     clear hS' hK
     clear K
     try simp only [Act.put, List.setIfInBounds_toArray, List.set_cons_zero, List.set_cons_succ]
     refine Late.one (i := 13) (by kernel_rfl) (by rfl) (fun K hK => ?_)
     go_simp
     refine hK.out _ _ (fun h => absurd h (by decide)) (fun _ => ?_)
     clear hK
     clear K
     try simp only [Act.put, List.setIfInBounds_toArray, List.set_cons_zero, List.set_cons_succ]
     refine Late.one (i := 14) (by kernel_rfl) (by rfl) (fun K hK => ?_)
     go_simp
     refine hK.out _ _ (fun h => absurd h (by decide)) (fun _ => ?_)
     clear hK
     clear K
     try simp only [Act.put, List.setIfInBounds_toArray, List.set_cons_zero, List.set_cons_succ]
     refine Late.one (i := 15) (by kernel_rfl) (by rfl) (fun K hK => ?_)
     go_simp
     refine hK.out _ _ (fun h => absurd h (by decide)) (fun _ => ?_)
     clear hK
     clear K
     try simp only [Act.put, List.setIfInBounds_toArray, List.set_cons_zero, List.set_cons_succ]
     refine Late.done (by kernel_rfl) ?_ _
     clear s0 s1 s2 s3 hS
     go_wp2
     go_roundw
     case rel => exact HN.out _ _ _ HFN.out
     case measure => simp [intOf]; omega
   ·go_simp
    refine hK.out _ _ (fun _ => HSA.out _ (KB.out.alloc _) (KF.out.alloc _)) (fun hS' => ?_)
    have hS := hS' (by decide)
    clear hS' hK
    clear K
    try simp only [Act.put, List.setIfInBounds_toArray, List.set_cons_zero, List.set_cons_succ]
    refine Late.one (i := 5) (by kernel_rfl) (by rfl) (fun K hK => ?_)
    go_simp
    refine hK.out _ _ (fun _ => HSA.out _ ((KB.out.alloc _).alloc _) ((KF.out.alloc _).alloc _)) (fun hS' => ?_)
    have hS := hS' (by decide)
    clear hS' hK
    clear K
    try simp only [Act.put, List.setIfInBounds_toArray, List.set_cons_zero, List.set_cons_succ]
    refine Late.one (i := 6) (by kernel_rfl) (by rfl) (fun K hK => ?_)
    (refine step_append_lies _ (by rfl) _ _ _ (by rfl) (w.heap.size + 2) 2 i0 _ 1 8 Tryz.underlying43 hi hz0 hz1 hz2 rfl (by omega) (.slice A1 k c1) k _ (by rfl) ((HWb.out).drew) ⟨(W.heap.size + 1), 0, none⟩ 1 1 [.int .i64 z] (by rfl) (by rfl) (World.news_of_block (cs := #[.int .i64 z]) (t := 2) (fr := (0, 0)) ((by have := heap_alloc_new (W.alloc (.cells #[.int .i64 x1, .int .i64 x2] 49)) (.cells #[.int .i64 z] 2); rwa [World.size_alloc] at this))) one_int (by omega) (by simp only [maxLen]; omega) (by omega) (by first | omega | (simp; omega)) (W.heap.size + 2) (by simp) ?_; intro gg cap w5 hown1 hg1 hat1 hlt1; have q3 : Below W.heap.size W (((W.alloc (.cells #[.int .i64 x1, .int .i64 x2] 49)).alloc (.cells #[.int .i64 z] 2)).drew) := ((((Below.refl _ _).alloc (Nat.le_refl _) _).alloc (by simp) _).drew); obtain ⟨p1, p2, p3, p4⟩ := lo_first HO.out HF.out hwz q3 (by rw [← HZ.out]; exact hown1) hg1; have KB5 := J (KB.out.below p3 (by omega)); have KR5 := J (KR.out.below p3 (by omega)); have KF5 := J (p4 _ _ (KF.out.belowS q3)); have t0 := KB5.out.at 0 (v := .slice A1 k c1) rfl; have t1 := KB5.out.at 1 (v := .slice A2 k c2) rfl; have y0 := KF5.out.at 0 (v := .int .i64 x1) rfl; have y1 := KF5.out.at 1 (v := .int .i64 x2) rfl; have l0 := KB5.out.lt; have l1 := KF5.out.lt; have HO5 := J p1; have HF5 := J p2; have HB5 := J (HB6.out.trans (p3.mono (by omega : w.heap.size ≤ w.heap.size + 2))); have hs5 := p3.size; have hz5 : w.heap.size + 2 ≤ w5.heap.size := Nat.le_trans hwz hs5; (have KN := J (p4 W.heap.size #[.int .i64 x1, .int .i64 x2] (nw2 W _ _))); clear hown1 hg1 hat1 p1 p2 p3 p4 q3)
    refine hK.out _ _ (fun _ => HSA.out _ (KB5.out) (KF5.out)) (fun hS' => ?_)
    have hS := hS' (by decide)
    clear hS' hK
    clear K
    try simp only [Act.put, List.setIfInBounds_toArray, List.set_cons_zero, List.set_cons_succ]
    refine Late.take (i := 12) (v := ?_) (by rfl) (by kernel_rfl) (by kernel_rfl) (by kernel_rfl) (by intro _ _ _ h; exact h) (by kernel_rfl) (by kernel_rfl) (Or.inl ⟨by rfl, ?_⟩) hS ?_
    rotate_left
    ·(intro W' hW'; rw [HSE.out] at hW'; obtain ⟨q0, q1, q2, q3⟩ := hW'; go_simp; (try with_reducible rfl))
    try simp only [Act.put, List.setIfInBounds_toArray, List.set_cons_zero, List.set_cons_succ]
    refine Late.one (i := 11) (by kernel_rfl) (by rfl) (fun K hK => ?_)
    (refine step_append_lies _ (by rfl) _ _ _ (by rfl) (w.heap.size + 2) 49 i2 _ 2 16 Tryz.underlying38 ki kz0 kz1 kz2 rfl (by omega) (.slice A2 k c2) k _ (by rfl) (HF5.out) ⟨W.heap.size, 0, none⟩ 1 1 [.int .i64 x1, .int .i64 x2] (by rfl) (by rfl) (World.news_of_block (cs := #[.int .i64 x1, .int .i64 x2]) (t := 49) (fr := (0, 0)) (KN.out)) ones_two (by omega) (by simp only [maxLen]; omega) (by omega) (by first | omega | (simp only [World.size_alloc]; omega)) (w5.heap.size) (by simp) ?_; intro gg2 cap2 w6 hown2 hg2 hat2 hlt2; rw [HXE.out.1, HXE.out.2] at hown2; obtain ⟨⟨KB6, KF6⟩, ⟨s0, s1, s2, s3⟩, HFN⟩ := lo_second KB5.out KR5.out HO5.out HF5.out HB5.out hz5 (Below.refl _ _) hown2 hg2 KF5.out HNE.out; clear hown2 hg2 hat2 t0 t1 y0 y1)
    refine hK.out _ _ (fun _ => HSA.out _ (KB6) (KF6)) (fun hS' => ?_)
    have hS := hS' (by decide)
    clear hS' hK
    clear K
    try simp only [Act.put, List.setIfInBounds_toArray, List.set_cons_zero, List.set_cons_succ]
    refine Late.one (i := 13) (by kernel_rfl) (by rfl) (fun K hK => ?_)
    go_simp
    refine hK.out _ _ (fun h => absurd h (by decide)) (fun _ => ?_)
    clear hK
    clear K
    try simp only [Act.put, List.setIfInBounds_toArray, List.set_cons_zero, List.set_cons_succ]
    refine Late.one (i := 14) (by kernel_rfl) (by rfl) (fun K hK => ?_)
    go_simp
    refine hK.out _ _ (fun h => absurd h (by decide)) (fun _ => ?_)
    clear hK
    clear K
    try simp only [Act.put, List.setIfInBounds_toArray, List.set_cons_zero, List.set_cons_succ]
    refine Late.one (i := 15) (by kernel_rfl) (by rfl) (fun K hK => ?_)
    go_simp
    refine hK.out _ _ (fun h => absurd h (by decide)) (fun _ => ?_)
    clear hK
    clear K
    try simp only [Act.put, List.setIfInBounds_toArray, List.set_cons_zero, List.set_cons_succ]
    refine Late.done (by kernel_rfl) ?_ _
    clear s0 s1 s2 s3 hS
    go_wp2
    go_roundw
    case rel => exact HN.out _ _ _ HFN.out
    case measure => simp [intOf]; omega
  ·obtain rfl : k = C.many := by omega
   have s0 := KB.out.at 0 (v := .slice A1 C.many c1) rfl
   have s1 := KB.out.at 1 (v := .slice A2 C.many c2) rfl
   have r0 := KR.out.at 0 (v := .slice none 0 0) rfl
   have r1 := KR.out.at 1 (v := .slice none 0 0) rfl
   have f0 := KR.out.frz 0
   have f1 := KR.out.frz 1
   have KK := (KR.out.setTo 0 (.slice A1 C.many c1) rfl).setTo 1 (.slice A2 C.many c2) rfl
   have k0 := KK.at 0 (v := .slice A1 C.many c1) rfl
   have k1 := KK.at 1 (v := .slice A2 C.many c2) rfl
   have HFIN := J (LawRet.put HO.out HF.out (by omega) HBr.out)
   clear KK HO HF KB KR HBr HX HQ HC
   go_wp2
   refine bodyPost_ret (v := .agg #[.slice A1 C.many c1, .slice A2 C.many c2]) (by simp [results, Tryz.results95, go_sem, k0, k1]) rfl ?_
   exact HFIN.out
end LpW
namespace LpX
open Go.RowKit Base Mem MemF GiveM RatM LvM LvQ LvO LvT Blk Choose
open LvL (pw_int)
def LpRel (C : Cnt) (w : World) (ov : Value) (k : Nat) (wr : World) : Prop :=
 Hid (OwnI wr (w.heap.size + 1) ov (fl k C.c)) ∧ Hid (Blk wr w.heap.size 60 #[.slice none 0 0, .slice none 0 0]) ∧ Hid (Below w.heap.size w wr)
theorem LpRel.lit {C : Cnt} {w : World} {x : Int} (hx : x = ((C.c 0 : Nat) : Int)) : LpRel C w (.slice (some ⟨w.heap.size + 1, 0, none⟩) 1 1) 1 ((w.alloc (.cells #[.slice none 0 0, .slice none 0 0] 60)).alloc (.cells #[.int .i64 x] 2)) := by
 refine ⟨J ?_, J ((Blk.new w _ _).alloc _), J (((Below.refl _ _).alloc (Nat.le_refl _) _).alloc (by simp) _)⟩
 have := lit1 (w.alloc (.cells #[.slice none 0 0, .slice none 0 0] 60)) (B := w.heap.size + 1) (by simp) C.c hx
 simpa using this
theorem LpRel.nil (C : Cnt) (w : World) : LpRel C w (.slice (some ⟨w.heap.size + 1, 0, none⟩) 0 0) 0 ((w.alloc (.cells #[.slice none 0 0, .slice none 0 0] 60)).alloc (.cells #[] 2)) := by
 refine ⟨J ?_, J ((Blk.new w _ _).alloc _), J (((Below.refl _ _).alloc (Nat.le_refl _) _).alloc (by simp) _)⟩
 have := lit0 (w.alloc (.cells #[.slice none 0 0, .slice none 0 0] 60)) (B := w.heap.size + 1) (by simp) C.c
 simpa using this
theorem LpRel.next {C : Cnt} {w wr w1 w2 : World} {k : Nat} {v v' : Value} (h : LpRel C w v k wr) (h1 : Below wr.heap.size wr w1)
  (hown : w2.ownsRow (w.heap.size + 1) 2 1 v' (k + 1) (ints (fl k C.c) ++ [.int .i64 ((C.c k : Nat) : Int)])) (hg : w1.grownBy w2 v.ownBlock) : LpRel C w v' (k + 1) w2 := by
 obtain ⟨hO, hK, hB⟩ := h
 obtain ⟨p1, p2⟩ := nextI (w0 := wr) hK.out.lt hO.out (Below.refl _ _) h1 hown hg
 exact ⟨J p1, J (hK.out.below p2 (Nat.lt_succ_self _)), J (hB.out.trans (p2.mono (Nat.le_succ _)))⟩
theorem LpRel.row {C : Cnt} {w wr w2 : World} {k : Nat} {v : Value} (h : LpRel C w v k wr) (hb : Below wr.heap.size wr w2) (x : Int) : (w2.alloc (.cells #[.int .i64 x] 2)).ownsRow (w.heap.size + 1) 2 1 v k (ints (fl k C.c)) := by
 have := World.ownsRow.alloc (OwnI.below h.1.out hb) (.cells #[.int .i64 x] 2)
 rw [fl_len] at this
 exact this
theorem lawOf_k {A : Option Addr} {c B n M K : Nat} {F : Int} {C : Cnt} (hK : K = C.many ∧ F = (C.first : Int)) (hC : C.ok n) (hn : n ≤ 50) (hM : M = 2 ^ n) (w : World) (hx : RdI w B A (fl K C.c)) (hB : B ≤ w.heap.size) :
  Calls Tryz.prog 95 #[.int .i64 F, .slice A K c, .int .i64 (M : Int)] w (LawRet C n w) := by
 obtain ⟨rfl, rfl⟩ := hK
 exact LpW.lawOf_d hC hn hM w hx hB
theorem onesI_d (n : Nat) (hn50 : n ≤ 50) (w : World) : Calls Tryz.prog 50 #[.int .i64 (n : Int)] w (LawRet (onesC n) n w) := by
 obtain ⟨i0, hi, hz0, hz1, hz2⟩ := info_parts infoI
 have H0 := J (LpRel.nil (onesC n) w)
 go_enter Tryz.func50, Tryz.ntmps50
 go_wp2
 go_loopw [3, 8] (fun ov kv wr => ∃ k : Nat, k ≤ n + 1 ∧ kv = .int .i64 (k : Int) ∧ LpRel (onesC n) w ov k wr) (fun _ kv _ => n + 1 - (intOf kv).toNat)
 case atStart => exact ⟨0, Nat.zero_le _, rfl, H0.out⟩
 case round =>
  obtain ⟨k, hk, rfl, HR⟩ := hrel
  obtain ⟨wo, rfl⟩ : ∃ x, x = wr := ⟨_, rfl⟩
  by_cases hlt : k < n + 1
  ·have HCh := J (choose_any n k wo hn50 (by omega))
   have HRR := J HR
   have hw := HR.2.1.out.lt
   have hkn : (k : Int) < (n : Int) + 1 := by omega
   clear H0 HR
   go_wp2_with fail
   refine HCh.out.mono ?_
   rintro e w2 ⟨rfl, nd, rfl⟩
   have hb2 := below_drewN (Below.refl wo.heap.size wo) nd
   rw [show ch n k = (onesC n).c k from rfl]
   have HW := J (HRR.out.row hb2 (((onesC n).c k : Nat) : Int))
   have HB2 := J hb2
   have hs2 := hb2.size
   clear hb2
   generalize wo.drewN nd = w2 at *
   go_wp2_with (at_builtin; refine wpList_append_own_at _ rfl (.tmp 11) (.tmp 15) 43 rfl (w.heap.size + 1) 2 i0 (.int .i64 0) 1 8 Tryz.underlying43 hi hz0 hz1 hz2 rfl (by decide) _ _ _ rfl HW.out ⟨w2.heap.size, 0, none⟩ 1 1 [.int .i64 (((onesC n).c k : Nat) : Int)] rfl rfl ?p1a ?p2a ?p3a ?p4a ?p5a ?_)
   try case p1a => exact news_one _ _ _ (by simp)
   try case p2a => first | exact one_int | rfl | simp
   try case p3a => first | (simp only [maxLen]; omega) | omega
   try case p4a => omega
   try case p5a => first | (simp only [World.size_alloc]; omega) | omega
   intro v' w3 hown' hg' _ he
   have HN := J (HRR.out.next (HB2.out.alloc HB2.out.size _) hown' hg')
   clear hown' hg' he
   go_wp2
   go_roundw
   case rel => exact ⟨k + 1, by omega, by simp, HN.out⟩
   case measure => simp [intOf]; omega
  ·obtain rfl : k = n + 1 := by omega
   obtain ⟨A1, c1, e5, _⟩ := HR.1.out.form
   rw [fl_len] at e5
   subst e5
   have HCt := J (lawOf_k (C := onesC n) (K := (n + 1)) (F := 0) (c := c1) ⟨rfl, rfl⟩ (onesC_ok n) hn50 rfl wo (OwnI.rd HR.1.out) (Nat.le_refl _))
   have hpw := pw_int hn50 rfl
   have HR2 := J HR
   clear HR
   go_wp2_with fail
   rw [hpw]
   refine HCt.out.mono ?_
   rintro e w3 ⟨v, rfl, ⟨A3, c3, A4, c4, rfl, o3, o4⟩, b3⟩
   have K3 := HR2.out.2.1.out.belowS b3
   have r0 := K3.at 0 (v := .slice none 0 0) rfl
   have r1 := K3.at 1 (v := .slice none 0 0) rfl
   have f0 := K3.frz 0
   have f1 := K3.frz 1
   have KK := (K3.setTo 0 (.slice A3 (onesC n).many c3) rfl).setTo 1 (.slice A4 (onesC n).many c4) rfl
   have k0 := KK.at 0 (v := .slice A3 (onesC n).many c3) rfl
   have k1 := KK.at 1 (v := .slice A4 (onesC n).many c4) rfl
   have HFIN := J (LawRet.put (w := w) o3 o4 (Nat.lt_of_lt_of_le (Nat.lt_succ_self _) (Nat.le_trans HR2.out.2.1.out.lt (Nat.le_refl _))) (Base.Below.nextA HR2.out.2.2.out b3))
   clear KK K3 o3 o4 b3 HCt hpw
   generalize (onesC n).many = mm at *
   go_wp2
   refine bodyPost_ret (v := .agg #[.slice A3 mm c3, .slice A4 mm c4]) (by simp [results, Tryz.results50, go_sem, k0, k1]) rfl ?_
   exact HFIN.out
theorem runsL_d (n : Nat) (hn1 : 1 ≤ n) (hn50 : n ≤ 50) (w : World) : Calls Tryz.prog 53 #[.int .i64 (n : Int)] w (LawRet (runsC n) n w) := by
 obtain ⟨i0, hi, hz0, hz1, hz2⟩ := info_parts infoI
 have H0 := J (LpRel.nil (runsC n) w)
 have HCZ : Hid (∀ k, (runsC n).c k = 2 * ch (n - 1) k) := J (fun k => rfl)
 go_enter Tryz.func53, Tryz.ntmps53
 go_wp2
 go_loopw [3, 7] (fun ov kv wr => ∃ k : Nat, k ≤ n ∧ kv = .int .i64 (k : Int) ∧ LpRel (runsC n) w ov k wr) (fun _ kv _ => n - (intOf kv).toNat)
 case atStart => exact ⟨0, Nat.zero_le _, rfl, H0.out⟩
 case round =>
  obtain ⟨k, hk, rfl, HR⟩ := hrel
  obtain ⟨wo, rfl⟩ : ∃ x, x = wr := ⟨_, rfl⟩
  by_cases hlt : k < n
  ·obtain ⟨n1, hn⟩ : ∃ m, m = n - 1 := ⟨_, rfl⟩
   have hnn : (n : Int) - 1 = (n1 : Int) := by omega
   have HCh := J (choose_any n1 k wo (by omega) (by omega))
   have hle := ch_le2 n1 k
   have hp : (2 : Nat) ^ n1 ≤ 2 ^ 49 := Nat.pow_le_pow_right (by decide) (by omega)
   have HRR := J HR
   have hw := HR.2.1.out.lt
   have hcz := HCZ.out k
   rw [← hn] at hcz
   have HNN := J hnn
   clear H0 HR hn hnn
   have h2x : (((runsC n).c k : Nat) : Int) = 2 * ((ch n1 k : Nat) : Int) := by rw [hcz]; simp
   have H2X := J h2x
   clear hcz h2x
   obtain ⟨x, hx⟩ : ∃ x, x = ch n1 k := ⟨_, rfl⟩
   rw [← hx] at HCh H2X hle
   clear hx
   go_wp2_with fail
   rw [HNN.out]
   refine HCh.out.mono ?_
   rintro e w2 ⟨rfl, nd, rfl⟩
   have hb2 := below_drewN (Below.refl wo.heap.size wo) nd
   have hx49 : x ≤ 562949953421312 := by omega
   have HW := J (HRR.out.row hb2 (2 * (x : Int)))
   have HB2 := J hb2
   have hs2 := hb2.size
   clear hb2 hle
   generalize wo.drewN nd = w2 at *
   go_wp2_with (at_builtin; refine wpList_append_own_at _ rfl (.tmp 10) (.tmp 16) 43 rfl (w.heap.size + 1) 2 i0 (.int .i64 0) 1 8 Tryz.underlying43 hi hz0 hz1 hz2 rfl (by decide) _ _ _ rfl HW.out ⟨w2.heap.size, 0, none⟩ 1 1 [.int .i64 (2 * (x : Int))] rfl rfl ?p1a ?p2a ?p3a ?p4a ?p5a ?_)
   try case p1a => exact news_one _ _ _ (by simp)
   try case p2a => first | exact one_int | rfl | simp
   try case p3a => first | (simp only [maxLen]; omega) | omega
   try case p4a => omega
   try case p5a => first | (simp only [World.size_alloc]; omega) | omega
   intro v' w3 hown' hg' _ he
   rw [← H2X.out] at hown'
   have HN := J (HRR.out.next (HB2.out.alloc HB2.out.size _) hown' hg')
   clear hown' hg' he
   go_wp2
   go_roundw
   case rel => exact ⟨k + 1, by omega, by simp, HN.out⟩
   case measure => simp [intOf]; omega
  ·obtain rfl : k = n := by omega
   obtain ⟨A1, c1, e5, _⟩ := HR.1.out.form
   rw [fl_len] at e5
   subst e5
   have HCt := J (lawOf_k (C := runsC k) (K := k) (F := 1) (c := c1) ⟨rfl, rfl⟩ (runsC_ok hn1) hn50 rfl wo (OwnI.rd HR.1.out) (Nat.le_refl _))
   have hpw := pw_int hn50 rfl
   have HR2 := J HR
   clear HR
   go_wp2_with fail
   rw [hpw]
   refine HCt.out.mono ?_
   rintro e w3 ⟨v, rfl, ⟨A3, c3, A4, c4, rfl, o3, o4⟩, b3⟩
   have K3 := HR2.out.2.1.out.belowS b3
   have r0 := K3.at 0 (v := .slice none 0 0) rfl
   have r1 := K3.at 1 (v := .slice none 0 0) rfl
   have f0 := K3.frz 0
   have f1 := K3.frz 1
   have KK := (K3.setTo 0 (.slice A3 (runsC k).many c3) rfl).setTo 1 (.slice A4 (runsC k).many c4) rfl
   have k0 := KK.at 0 (v := .slice A3 (runsC k).many c3) rfl
   have k1 := KK.at 1 (v := .slice A4 (runsC k).many c4) rfl
   have HFIN := J (LawRet.put (w := w) o3 o4 (Nat.lt_of_lt_of_le (Nat.lt_succ_self _) (Nat.le_trans HR2.out.2.1.out.lt (Nat.le_refl _))) (Base.Below.nextA HR2.out.2.2.out b3))
   clear KK K3 o3 o4 b3 HCt hpw
   generalize (runsC k).many = mm at *
   go_wp2
   refine bodyPost_ret (v := .agg #[.slice A3 mm c3, .slice A4 mm c4]) (by simp [results, Tryz.results53, go_sem, k0, k1]) rfl ?_
   exact HFIN.out
end LpX
namespace LpX
open Go.RowKit Base Mem MemF GiveM RatM LvM LvQ LvO LvT Blk
open LvL (pw_int)
def WyRel (m n : Nat) (w : World) (ov kv : Value) (wr : World) : Prop := ∃ k : Nat, 1 ≤ k ∧ k ≤ n + 1 ∧ kv = .int .i64 (k : Int) ∧ Hid (OwnI wr w.heap.size ov (fl k (W m))) ∧ Hid (Below w.heap.size w wr)
theorem longL_d (n : Nat) (hn1 : 1 ≤ n) (hn50 : n ≤ 50) (w : World) : Calls Tryz.prog 56 #[.int .i64 (n : Int)] w (LawRet (lenC n) n w) := by
 obtain ⟨i0, hi, hz0, hz1, hz2⟩ := info_parts infoI
 have H0 := J (LpRel.nil (lenC n) w)
 have HCZ : Hid (∀ k, (lenC n).c k = 2 * W (k + 1) n - 2 * W k n) := J (fun k => by unfold lenC cL; simp)
 have HW0 : Hid (2 * W 0 n = 0) := J (by obtain ⟨m, rfl⟩ : ∃ m, n = m + 1 := ⟨n - 1, by omega⟩; rw [W_none])
 go_enter Tryz.func56, Tryz.ntmps56
 go_wp2
 go_loopw [3, 4, 5] (fun ov bv kv wr => ∃ j : Nat, j ≤ n ∧ kv = .int .i64 ((j : Int) + 1) ∧ bv = .int .i64 ((2 * W j n : Nat) : Int) ∧ LpRel (lenC n) w ov j wr) (fun _ _ kv _ => n + 1 - (intOf kv).toNat)
 case atStart => exact ⟨0, Nat.zero_le _, rfl, by rw [HW0.out]; rfl, H0.out⟩
 case round =>
  obtain ⟨j, hj, rfl, rfl, HR⟩ := hrel
  obtain ⟨wo, rfl⟩ : ∃ x, x = wr := ⟨_, rfl⟩
  by_cases hlt : j < n
  ·have HRR := J HR
   have hw := HR.2.1.out.lt
   have hcz := HCZ.out j
   have h1 := W_mono j n
   have h2 := W_bound (j + 1) n
   have hp : (2 : Nat) ^ n ≤ 2 ^ 50 := Nat.pow_le_pow_right (by decide) hn50
   obtain ⟨y, hy⟩ : ∃ y, y = 2 * W j n := ⟨_, rfl⟩
   have hyx : y ≤ 2 * W (j + 1) n := by omega
   have h2x : (((lenC n).c j : Nat) : Int) = 2 * ((W (j + 1) n : Nat) : Int) - (y : Int) := by rw [hcz, ← hy]; omega
   have H2X := J h2x
   rw [← hy]
   have hWn : W (j + 1) n ≤ 1125899906842624 := by omega
   have HWN := J (And.intro hWn hyx)
   have HM : Hid (WyRel (j + 1) n wo (.slice (some ⟨wo.heap.size, 0, none⟩) 1 1) (.int .i64 1) (wo.alloc (.cells #[.int .i64 1] 2))) := J ⟨1, Nat.le_refl _, by omega, rfl, J (lit1 wo (Nat.le_refl _) (W (j + 1)) (by rw [W_zero]; rfl)), J ((Below.refl _ _).alloc (Nat.le_refl _) _)⟩
   have HJ : Hid (1 ≤ j + 1) := J (by omega)
   obtain ⟨m, hm⟩ : ∃ m, m = j + 1 := ⟨_, rfl⟩
   have hmj : (j : Int) + 1 = (m : Int) := by omega
   have hm50 : m ≤ 50 := by omega
   have hm1 : 1 ≤ m := by omega
   rw [← hm] at HM H2X HWN
   have HMJ := J (And.intro hmj hm)
   clear H0 HR hcz h2x h1 h2 hy hyx hWn hm hmj hp
   go_wp2
   rw [HMJ.out.1, show decide ((m : Int) ≤ (n : Int)) = true from decide_eq_true (by have := HMJ.out.2; omega)]
   go_loopw [6, 7] (fun ov kv wr => WyRel m n wo ov kv wr) (fun _ kv _ => n + 1 - (intOf kv).toNat)
   case atStart => exact HM.out
   case round =>
    obtain ⟨k, hk1, hk2, rfl, HO, HB2⟩ := hrel
    obtain ⟨wp, rfl⟩ : ∃ x, x = wr := ⟨_, rfl⟩
    clear HM
    obtain ⟨A2, c2, e2, _⟩ := HO.out.form
    rw [fl_len] at e2
    subst e2
    have hzp := HB2.out.size
    by_cases hkn : k ≤ n
    ·obtain ⟨mk, hmk⟩ : ∃ mk, mk = min m k := ⟨_, rfl⟩
     have hms : sm mk (fun t => W m (k - 1 - t)) = W m k := by
      obtain ⟨k', rfl⟩ : ∃ q, k = q + 1 := ⟨k - 1, by omega⟩
      rw [W_succ, hmk, Nat.add_sub_cancel]
     have hWk : W m k ≤ 1125899906842624 := by
      have := W_bound m k
      have h3 : (2 : Nat) ^ k ≤ 2 ^ 50 := Nat.pow_le_pow_right (by decide) (by omega)
      omega
     have hmin : (if (k : Int) < (m : Int) then (k : Int) else (m : Int)) = (mk : Int) := by split <;> omega
     have hmin2 : (if (m : Int) < (k : Int) then (m : Int) else (k : Int)) = (mk : Int) := by split <;> omega
     have hmkk : mk ≤ k := by omega
     have HMS := J hms
     clear hms hmk
     have hown := World.ownsRow.alloc HO.out (.cells #[.int .i64 ((W m k : Nat) : Int)] 2)
     rw [fl_len] at hown
     have HWn := J hown
     have HMIN := J (And.intro hmin hmin2)
     clear hown hmin hmin2
     go_wp2
     go_loop [8, 9] (fun sv rv => ∃ r : Nat, r ≤ mk ∧ rv = .int .i64 ((r : Int) + 1) ∧ sv = .int .i64 ((sm r (fun t => W m (k - 1 - t)) : Nat) : Int)) (fun _ rv => mk + 1 - (intOf rv).toNat)
     case atStart => exact ⟨0, Nat.zero_le _, rfl, rfl⟩
     case round =>
      obtain ⟨r, hr, rfl, rfl⟩ := hrel
      have e1 := HMIN.out.1
      have e2 := HMIN.out.2
      by_cases hrm : r < mk
      ·obtain ⟨b, off, rfl, _, hcc⟩ := (OwnI.rd HO.out) (by rw [fl_len]; omega)
       have g1 := hcc (k - 1 - r) (by rw [fl_len]; omega)
       rw [fl_at _ (by omega)] at g1
       have hs1 : sm (r + 1) (fun t => W m (k - 1 - t)) ≤ sm mk (fun t => W m (k - 1 - t)) := sm_mono (by omega)
       rw [HMS.out] at hs1
       have hs2 : sm (r + 1) (fun t => W m (k - 1 - t)) = sm r (fun t => W m (k - 1 - t)) + W m (k - 1 - r) := rfl
       rw [hs2] at hs1
       have HS2 := J hs2
       have hqi : (k : Int) - ((r : Int) + 1) = ((k - 1 - r : Nat) : Int) := by omega
       have hqk : ((k - 1 - r : Nat) : Int) < (k : Int) := by omega
       clear hcc hs2
       generalize sm r (fun t => W m (k - 1 - t)) = S at *
       generalize W m (k - 1 - r) = y2 at *
       generalize k - 1 - r = q at *
       have hrm2 : (r : Int) + 1 ≤ (mk : Int) := by omega
       go_wp2
       go_round
       case rel => exact ⟨r + 1, hrm, by go_num, by rw [HS2.out]; go_num⟩
       case measure => simp [intOf]; omega
      ·obtain rfl : r = mk := by omega
       rw [HMS.out]
       have hrm2 : ¬ ((r : Int) + 1 ≤ (r : Int)) := by omega
       obtain ⟨z, hz⟩ : ∃ z, z = W m k := ⟨_, rfl⟩
       rw [← hz] at HWn hWk ⊢
       have HZ := J hz
       clear hz
       go_wp2_with (at_builtin; refine wpList_append_own_at _ rfl (.tmp 37) (.tmp 39) 43 rfl wo.heap.size 2 i0 (.int .i64 0) 1 8 Tryz.underlying43 hi hz0 hz1 hz2 rfl (by decide) _ _ _ rfl HWn.out ⟨wp.heap.size, 0, none⟩ 1 1 [.int .i64 (z : Int)] rfl rfl ?p1a ?p2a ?p3a ?p4a ?p5a ?_)
       try case p1a => exact news_one _ _ _ (by simp)
       try case p2a => first | exact one_int | rfl | simp
       try case p3a => first | (simp only [maxLen]; omega) | omega
       try case p4a => omega
       try case p5a => first | (simp only [World.size_alloc]; omega) | omega
       intro v' w3 hown' hg' _ he
       rw [HZ.out] at hown'
       obtain ⟨p1, p2⟩ := nextI (f := W m) hzp HO.out HB2.out ((Below.refl _ _).alloc (Nat.le_refl _) _) hown' hg'
       have HN : Hid (WyRel m n wo v' (.int .i64 ((k : Int) + 1)) w3) := J ⟨k + 1, by omega, by omega, by simp, J p1, J p2⟩
       clear hown' hg' he p1 p2 e1 e2
       go_wp2
       go_roundw
       case rel => exact HN.out
       case measure => simp [intOf]; omega
    ·obtain rfl : k = n + 1 := by omega
     obtain ⟨b, off, rfl, _, hcc⟩ := (OwnI.rd HO.out) (by rw [fl_len]; omega)
     have g1 := hcc n (by rw [fl_len]; omega)
     rw [fl_at _ (by omega)] at g1
     obtain ⟨z, hz⟩ : ∃ z, z = W m n := ⟨_, rfl⟩
     obtain ⟨hz50, hyz⟩ := HWN.out
     rw [← hz] at g1 hz50 hyz
     have h2x := H2X.out
     rw [← hz] at h2x
     have HZ := J hz
     have HX2 := J h2x
     have hnn : (n : Int) < (n : Int) + 1 := by omega
     have hrow := HRR.out.row HB2.out (2 * (z : Int) - (y : Int))
     have HW := J hrow
     clear hcc hz h2x hrow
     go_wp2_with (at_builtin; refine wpList_append_own_at _ rfl (.tmp 41) (.tmp 49) 43 rfl (w.heap.size + 1) 2 i0 (.int .i64 0) 1 8 Tryz.underlying43 hi hz0 hz1 hz2 rfl (by decide) _ _ _ rfl HW.out ⟨wp.heap.size, 0, none⟩ 1 1 [.int .i64 (2 * (z : Int) - (y : Int))] rfl rfl ?p1b ?p2b ?p3b ?p4b ?p5b ?_)
     try case p1b => exact news_one _ _ _ (by simp)
     try case p2b => first | exact one_int | rfl | simp
     try case p3b => first | (simp only [maxLen]; omega) | omega
     try case p4b => omega
     try case p5b => first | (simp only [World.size_alloc]; omega) | omega
     intro v' w3 hown' hg' _ he
     rw [← HX2.out] at hown'
     have HN := J (HRR.out.next (HB2.out.alloc hzp _) hown' hg')
     have g2 : w3.cell? ⟨b, off + n, none⟩ = some (.int .i64 (z : Int)) := by
      have hk : OwnI w3 wo.heap.size (.slice (some ⟨b, off, none⟩) (n + 1) c2) (fl (n + 1) (W m)) := World.ownsRow.kept (World.ownsRow.alloc HO.out _) hg' (.inr fun e => by
       obtain ⟨_, _, q1, _⟩ := ownsRow_block HO.out (g := b) rfl
       obtain ⟨_, _, _, q2⟩ := ownsRow_block HRR.out.1.out (g := b) e.symm
       omega)
      obtain ⟨b', off', e', _, hc'⟩ := (OwnI.rd hk) (by rw [fl_len]; omega)
      injection e' with e'
      injection e' with e1 e2 _
      subst e1 e2
      have := hc' n (by rw [fl_len]; omega)
      rw [fl_at _ (by omega), ← HZ.out] at this
      exact this
     clear hown' hg' he
     go_wp2
     go_roundw
     case rel => exact ⟨j + 1, hlt, by rw [← HMJ.out.1]; simp, by rw [HZ.out, HMJ.out.2]; simp, HN.out⟩
     case measure => have := HMJ.out.1; simp [intOf]; omega
  ·obtain rfl : j = n := by omega
   obtain ⟨A1, c1, e5, _⟩ := HR.1.out.form
   rw [fl_len] at e5
   subst e5
   have HCt := J (lawOf_k (C := lenC j) (K := j) (F := 1) (c := c1) ⟨rfl, rfl⟩ (lenC_ok hn1) hn50 rfl wo (OwnI.rd HR.1.out) (Nat.le_refl _))
   have hpw := pw_int hn50 rfl
   have HR2 := J HR
   clear HR
   go_wp2_with fail
   rw [hpw]
   refine HCt.out.mono ?_
   rintro e w3 ⟨v, rfl, ⟨A3, c3, A4, c4, rfl, o3, o4⟩, b3⟩
   have K3 := HR2.out.2.1.out.belowS b3
   have r0 := K3.at 0 (v := .slice none 0 0) rfl
   have r1 := K3.at 1 (v := .slice none 0 0) rfl
   have f0 := K3.frz 0
   have f1 := K3.frz 1
   have KK := (K3.setTo 0 (.slice A3 (lenC j).many c3) rfl).setTo 1 (.slice A4 (lenC j).many c4) rfl
   have k0 := KK.at 0 (v := .slice A3 (lenC j).many c3) rfl
   have k1 := KK.at 1 (v := .slice A4 (lenC j).many c4) rfl
   have HFIN := J (LawRet.put (w := w) o3 o4 (Nat.lt_of_lt_of_le (Nat.lt_succ_self _) (Nat.le_trans HR2.out.2.1.out.lt (Nat.le_refl _))) (Base.Below.nextA HR2.out.2.2.out b3))
   clear KK K3 o3 o4 b3 HCt hpw
   generalize (lenC j).many = mm at *
   go_wp2
   refine bodyPost_ret (v := .agg #[.slice A3 mm c3, .slice A4 mm c4]) (by simp [results, Tryz.results56, go_sem, k0, k1]) rfl ?_
   exact HFIN.out
end LpX
namespace LpS
open Go.RowKit Base Mem LvQ LvO LvT LvG
theorem nan_c (x : Int) (w : World) : Calls Tryz.prog 233 #[.int .i64 x] w fun e w' => e = .returned (.bool false) ∧ w = w' := by
 have h : (x != x) = false := by simp
 go_enter Tryz.func233, Tryz.ntmps233
 go_wp2
 go_ret
 exact ⟨ret_bool (by simp), rfl⟩
theorem less_c (x y : Int) (w : World) : Calls Tryz.prog 200 #[.int .i64 x, .int .i64 y] w fun e w' => e = .returned (.bool (decide (x < y))) ∧ w = w' := by
 go_enter Tryz.func200, Tryz.ntmps200
 go_wp2_with fail
 refine (nan_c x _).mono ?_
 rintro e w' ⟨rfl, rfl⟩
 go_wp2
 go_ret
 exact ⟨ret_bool (by simp), rfl⟩
theorem search_d {A : Option Addr} {B c N p : Nat} {C : Cnt} (hf : C.first ≤ 1) (hp : p < N) (hN : N ≤ 60) (w : World) (hx : RdI w B A (fl N (vD C))) :
  Calls Tryz.prog 158 #[.slice A N c, .int .i64 ((C.first + p : Nat) : Int)] w fun e w' => e = .returned (.tuple #[.int .i64 (p : Int), .bool true]) ∧ w = w' := by
 obtain ⟨b, off, rfl, _, hc⟩ := rdV hx hp
 have HC := J hc
 rw [show ((C.first + p : Nat) : Int) = (C.first : Int) + (p : Int) by simp]
 clear hx hc
 go_enter Tryz.func158, Tryz.ntmps158
 go_wp2
 go_loop [7, 8] (fun iv jv => ∃ i j : Nat, i ≤ p ∧ p ≤ j ∧ j ≤ N ∧ iv = .int .i64 (i : Int) ∧ jv = .int .i64 (j : Int)) (fun iv jv => (intOf jv).toNat - (intOf iv).toNat)
 case atStart => exact ⟨0, N, Nat.zero_le _, by omega, Nat.le_refl _, rfl, rfl⟩
 case round =>
  obtain ⟨i, j, hi, hj, hjN, rfl, rfl⟩ := hrel
  by_cases hij : i < j
  ·obtain ⟨h, hh⟩ : ∃ h, h = (i + j) / 2 := ⟨_, rfl⟩
   have hhN : h < N := by omega
   have g1 := HC.out h hhN
   have hl := fun W => less_c ((C.first : Int) + (h : Int)) ((C.first : Int) + (p : Int)) W
   have hdiv : ((i : Int) + (j : Int)) / 2 = (h : Int) := by omega
   have hih : i ≤ h := by omega
   have hhj : h < j := by omega
   clear hh
   by_cases hhp : h < p
   ·rw [decide_eq_true (show (C.first : Int) + (h : Int) < (C.first : Int) + (p : Int) by omega)] at hl
    have HL := J hl
    clear hl
    go_wp2_with fail
    refine (HL.out _).mono ?_
    rintro e w' ⟨rfl, rfl⟩
    go_wp2
    go_round
    case rel => exact ⟨h + 1, j, by omega, hj, hjN, by simp, rfl⟩
    case measure => simp [intOf]; omega
   ·rw [decide_eq_false (show ¬ (C.first : Int) + (h : Int) < (C.first : Int) + (p : Int) by omega)] at hl
    have HL := J hl
    clear hl
    go_wp2_with fail
    refine (HL.out _).mono ?_
    rintro e w' ⟨rfl, rfl⟩
    go_wp2
    go_round
    case rel => exact ⟨i, h, hi, by omega, by omega, rfl, rfl⟩
    case measure => simp [intOf]; omega
  ·obtain rfl : i = j := by omega
   obtain rfl : i = p := by omega
   have g1 := HC.out i hp
   have hiN : (i : Int) < (N : Int) := by omega
   have heq : (((C.first : Int) + (i : Int)) == ((C.first : Int) + (i : Int))) = true := by simp
   go_wp2
   refine bodyPost_ret (v := .tuple #[.int .i64 (i : Int), .bool true]) (by simp [results, Tryz.results158, go_sem]) rfl ⟨rfl, rfl⟩
end LpS
namespace LpC
open Go.RowKit Base Mem MemF GiveM Blk LvQ LvO LvT LvW LvF LvG LpS
theorem chanceI_d {n p : Nat} {C : Cnt} {v : Value} (hC : C.ok n) (hp : p < C.many) (hn : n ≤ 50) (w : World) (hv : LawIs C n w v) :
  Calls Tryz.prog 97 #[v, .int .i64 ((C.first + p : Nat) : Int)] w fun e w' => e = .returned (.agg #[.int .i64 (nD n (C.c p)), .int .i64 (dD n (C.c p))]) ∧ Below w.heap.size w w' := by
 obtain ⟨A, c, A', c', rfl, hx, hy⟩ := hv
 have hN60 : C.many ≤ 51 := by have := hC.2.1; omega
 obtain ⟨W2, hW2⟩ : ∃ W2, W2 = (w.alloc (.cells #[.slice A C.many c, .slice A' C.many c'] 60)).alloc (.cells #[.int .i64 0, .int .i64 0] 49) := ⟨_, rfl⟩
 have b2 : Below w.heap.size w W2 := by rw [hW2]; exact ((Below.refl _ _).alloc (Nat.le_refl _) _).alloc (by simp) _
 have KL : Blk W2 w.heap.size 60 #[.slice A C.many c, .slice A' C.many c'] := by rw [hW2]; exact (Blk.new w _ _).alloc _
 have KR : Blk W2 (w.heap.size + 1) 49 #[.int .i64 0, .int .i64 0] := by rw [hW2]; exact Blk.newAt _ _ (by simp)
 have HS := J (search_d (c := c) hC.1 hp (by omega) W2 (hx.below b2 (Nat.le_refl _)))
 obtain ⟨fb, fo, rfl, hfb, g1, g2⟩ := rdD (hy.below b2 (Nat.le_refl _)) hp
 have HW := J hW2
 have d0 := KL.at 0 (v := .slice A C.many c) rfl
 have d1 := KL.at 1 (v := .slice (some ⟨fb, fo, none⟩) C.many c') rfl
 have r0 := KR.at 0 (v := .int .i64 0) rfl
 have r1 := KR.at 1 (v := .int .i64 0) rfl
 have f0 := KR.frz 0
 have f1 := KR.frz 1
 have SS := (KR.setTo 0 (.int .i64 (nD n (C.c p))) rfl).setTo 1 (.int .i64 (dD n (C.c p))) rfl
 have k0 := SS.at 0 (v := .int .i64 (nD n (C.c p))) rfl
 have k1 := SS.at 1 (v := .int .i64 (dD n (C.c p))) rfl
 have HBF := J ((b2.setCell (p := ⟨w.heap.size + 1, 0, none⟩) (Nat.le_succ _) (.int .i64 (nD n (C.c p)))).setCell (p := ⟨w.heap.size + 1, 1, none⟩) (Nat.le_succ _) (.int .i64 (dD n (C.c p))))
 have hpN : (p : Int) < (C.many : Int) := by omega
 generalize nD n (C.c p) = x1 at *
 generalize dD n (C.c p) = x2 at *
 rw [show ((C.first + p : Nat) : Int) = (C.first : Int) + (p : Int) by simp] at HS ⊢
 generalize (C.first : Int) + (p : Int) = vv at *
 generalize C.many = N at *
 clear hC hx hy hW2 b2 KL KR SS
 go_enter Tryz.func97, Tryz.ntmps97
 go_wp2_with fail
 rw [← HW.out]
 refine HS.out.mono ?_
 rintro e w' ⟨rfl, rfl⟩
 clear HS HW
 go_wp2
 refine bodyPost_ret (v := .agg #[.int .i64 x1, .int .i64 x2]) (by simp [results, Tryz.results97, go_sem, k0, k1]) rfl ⟨rfl, HBF.out⟩
end LpC
namespace LpK
open Go.RowKit Base Mem MemF GiveM NatM RatM Ratio Blk LvQ LvO LvT LvW LvF LvG
theorem isRtM (q : Rat) : Rel.Mono (fun v w => IsRt w q v) := fun v w w' h hb => h.below hb
theorem dy_sz {n x : Nat} (hx : x ≤ 2 ^ n) (hn : n ≤ 50) : szR (dy n x) ≤ 200000 := by
 obtain ⟨h1, h2⟩ := small_true (dy_small hx hn)
 have g1 : (natL (dy n x).num.natAbs).length ≤ 2 := natL_len_le (k := 2) (Nat.lt_of_le_of_lt h1 (by decide))
 have g2 : (natL (dy n x).den).length ≤ 2 := natL_len_le (k := 2) (Nat.lt_of_le_of_lt h2 (by decide))
 unfold szR
 omega
theorem rof_d {n x : Nat} (hx : x ≤ 2 ^ n) (hn : n ≤ 50) (w : World) : Calls Tryz.prog 96 #[.agg #[.int .i64 (nD n x), .int .i64 (dD n x)]] w (RV (dy n x) w) := by
 obtain ⟨h1, h2⟩ := small_true (dy_small hx hn)
 obtain ⟨e1, e2⟩ := dy_numQ hx hn
 obtain ⟨_, _, e3⟩ := (dy_vf hx hn).num
 rw [qf_self] at e3
 unfold nD dD
 rw [e1, e2]
 have h := ratioOf_any (dy n x).num ((dy n x).den : Int) h1 (by omega) (by omega) w
 rw [Int.toNat_natCast, ← e3] at h
 exact h
theorem cmp_le {n x y : Nat} (h : x ≤ y) : cmpQ (dy n x) (dy n y) = -1 ∨ cmpQ (dy n x) (dy n y) = 0 := by
 unfold cmpQ
 rcases Nat.lt_or_ge x y with h1 | h1
 ·have := dy_lt (n := n) h1
  rw [if_neg (fun e => by grind), if_pos this]; exact .inl rfl
 ·rw [if_pos (by rw [show x = y by omega])]; exact .inr rfl
theorem cmp_gt {n x y : Nat} (h : ¬ x ≤ y) : cmpQ (dy n x) (dy n y) = 1 := by
 have := dy_lt (n := n) (Nat.not_le.1 h)
 unfold cmpQ
 rw [if_neg (fun e => by grind), if_neg (by grind)]
theorem close_d {n i y lb mb : Nat} {A A' : Option Addr} {c c' : Nat} {C : Cnt} {s : Bool} {A1 A2 : Option Addr} {k1 c1 k2 c2 : Nat} (hC : C.ok n) (hi : i < C.many) (hn : n ≤ 50) (hy : y ≤ 2 ^ n) (w : World)
  (KL0 : Blk w lb 60 #[.slice A C.many c, .slice A' C.many c']) (hf : RdF w w.heap.size A' C.many (outF (fD C n) C.many)) (KM0 : Blk w mb 147 #[.bool s, .slice A1 k1 c1, .slice A2 k2 c2]) (hm : IsRt w (dy n y) (.agg #[.bool s, .slice A1 k1 c1, .slice A2 k2 c2])) :
  Calls Tryz.prog 99 #[.int .i64 (i : Int), .pointer (some ⟨lb, 0, none⟩), .pointer (some ⟨mb, 0, none⟩)] w fun e w' => e = .returned (.bool (decide (C.c i ≤ y))) ∧ Below w.heap.size w w' := by
 have hx := Cnt.one_le hC hi
 have hN60 : C.many ≤ 51 := by have := hC.2.1; omega
 obtain ⟨fb, fo, rfl, hfb, g1, g2⟩ := rdD hf hi
 have HRO := J (fun W => rof_d hx hn W)
 have KL := J KL0
 have KM := J KM0
 have HM := J hm
 have HZ := J (And.intro (dy_sz hx hn) (dy_sz hy hn))
 have hcr : ∃ r : Int, cmpQ (dy n (C.c i)) (dy n y) = r ∧ (r = -1 ∨ r = 0 ∨ r = 1) ∧ (decide (r ≤ 0) = decide (C.c i ≤ y)) := by
  by_cases h : C.c i ≤ y
  ·rcases cmp_le (n := n) h with e | e
   ·exact ⟨_, e, .inl rfl, by rw [decide_eq_true h]; rfl⟩
   ·exact ⟨_, e, .inr (.inl rfl), by rw [decide_eq_true h]; rfl⟩
  ·exact ⟨_, cmp_gt h, .inr (.inr rfl), by rw [decide_eq_false h]; rfl⟩
 obtain ⟨r, hr, hr3, hrd⟩ := hcr
 have HR := J hr
 have HRD := J (And.intro hr3 hrd)
 have hiN : (i : Int) < (C.many : Int) := by omega
 generalize dy n (C.c i) = q at *
 generalize dy n y = q2 at *
 generalize nD n (C.c i) = x1 at *
 generalize dD n (C.c i) = x2 at *
 generalize C.many = N at *
 clear hC hx hf hm KL0 KM0 hr hr3 hrd
 go_enter Tryz.func99, Tryz.ntmps99
 go_wp2_with fail
 refine Rel.wp_region_rel 8 (by kernel_rfl) (by kernel_rfl) (fun F hF => ?_)
 simp only [List.take_succ_cons, List.take_zero, List.drop_succ_cons, List.drop_zero, Rel.putL] at hF ⊢
 have HF := J hF
 clear hF
 have uv := @Rel.upon_value Tryz.prog
 have ue := @Rel.upon_enter Tryz.prog
 apply Rel.rel_pure
 apply Exists.intro
 refine ⟨fun vs wq hq hdp R hR => ?_, ?_⟩
 ·(rw [HF.out, Rel.stepAt_eq]; clear hdp; skip; go_simp; exact hR)
 apply Rel.rel_pure
 apply Exists.intro
 refine ⟨fun vs wq hq hdp R hR => ?_, ?_⟩
 ·(rw [HF.out, Rel.stepAt_eq]; have qd0 : vs 0 = _ := Rel.dep hdp 0 (by kernel_rfl); clear hdp; have x1 := (KL.out.belowS hq).at 1 (v := .slice (some ⟨fb, fo, none⟩) N c') rfl; go_simp; exact hR)
 apply Rel.rel_pure
 apply Exists.intro
 refine ⟨fun vs wq hq hdp R hR => ?_, ?_⟩
 ·(rw [HF.out, Rel.stepAt_eq]; clear hdp; skip; go_simp; exact hR)
 apply Rel.rel_pure
 apply Exists.intro
 refine ⟨fun vs wq hq hdp R hR => ?_, ?_⟩
 ·(rw [HF.out, Rel.stepAt_eq]; have qd1 : vs 1 = _ := Rel.dep hdp 1 (by kernel_rfl); have qd2 : vs 2 = _ := Rel.dep hdp 2 (by kernel_rfl); clear hdp; skip; go_simp; exact hR)
 apply Rel.rel_pure
 apply Exists.intro
 refine ⟨fun vs wq hq hdp R hR => ?_, ?_⟩
 ·(rw [HF.out, Rel.stepAt_eq]; have qd3 : vs 3 = _ := Rel.dep hdp 3 (by kernel_rfl); clear hdp; have y0 := (hq.cell (p := ⟨fb, fo + i * 2, none⟩) hfb).trans g1; have y1 := (hq.cell (p := ⟨fb, fo + i * 2 + 1, none⟩) hfb).trans g2; go_simp; exact hR)
 refine Rel.rel_law (S := fun v w' => IsRt w' q v) (isRtM q) (fun vs wq hq hdp => ?_) ?_
 ·(rw [HF.out, Rel.stepAt_eq]; have qd4 : vs 4 = _ := Rel.dep hdp 4 (by kernel_rfl); clear hdp; skip; go_simp; refine (HRO.out _).mono ?_; rintro e w7 h; obtain ⟨v, rfl, hv, hb⟩ := h.is; exact ⟨_, rfl, hv, hb⟩)
 apply Rel.rel_pure
 apply Exists.intro
 refine ⟨fun vs wq hq hdp R hR => ?_, ?_⟩
 ·(rw [HF.out, Rel.stepAt_eq]; clear hdp; have x0 := (KM.out.belowS hq).at 0 (v := .bool s) rfl; have x1 := (KM.out.belowS hq).at 1 (v := .slice A1 k1 c1) rfl; have x2 := (KM.out.belowS hq).at 2 (v := .slice A2 k2 c2) rfl; go_simp; exact hR)
 apply Rel.rel_same
 apply Exists.intro
 refine ⟨fun vs wq hq hdp => ?_, ?_⟩
 ·(rw [HF.out, Rel.stepAt_eq]; have qd5 : IsRt wq q (vs 5) := Rel.dep hdp 5 (by kernel_rfl); have qd6 : vs 6 = _ := Rel.dep hdp 6 (by kernel_rfl); clear hdp; skip; go_simp; refine (ratCompare wq qd5 (HM.out.below hq) HZ.out.1 HZ.out.2).mono ?_; rintro e w7 ⟨rfl, hb⟩; exact ⟨_, rfl, rfl, hb⟩)
 refine Rel.rel_end (fun vs wq hq hall => ?_)
 rw [HF.out]
 have qe0 : vs 0 = _ := Rel.fin hall 0 (by decide)
 have qe1 : vs 1 = _ := Rel.fin hall 1 (by decide)
 have qe2 : vs 2 = _ := Rel.fin hall 2 (by decide)
 have qe3 : vs 3 = _ := Rel.fin hall 3 (by decide)
 have qe4 : vs 4 = _ := Rel.fin hall 4 (by decide)
 have qe5 : IsRt wq q (vs 5) := Rel.fin hall 5 (by decide)
 have qe6 : vs 6 = _ := Rel.fin hall 6 (by decide)
 have qe7 : vs 7 = _ := Rel.fin hall 7 (by decide)
 clear hall HF uv ue
 have ev : vs 7 = .int .i64 r := by rw [qe7, HR.out]
 have HB := J hq
 clear qe0 qe1 qe2 qe3 qe4 qe5 qe6 qe7 hq
 rcases HRD.out.1 with e | e | e
 all_goals
  subst e
  go_wp2
  go_ret
  exact ⟨by rw [← HRD.out.2]; rfl, HB.out⟩
end LpK
end Go.Proofs.YtgipnbeipfhekaaGreatDoor

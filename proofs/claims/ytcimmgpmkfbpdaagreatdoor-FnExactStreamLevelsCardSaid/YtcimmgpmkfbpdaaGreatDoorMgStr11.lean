/- The program: a law from its counts. -/
import Derived.Test.YtcimmgpmkfbpdaaGreatDoorMgStr10
import Derived.Test.YtcimmgpmkfbpdaaGreatDoorMgStr00
import Derived.Laws.BitsAllLaws
import Derived.IntWalk
import Derived.Test.YtcimmgpmkfbpdaaGreatDoorMgStr08
namespace Go.Proofs.YtcimmgpmkfbpdaaGreatDoor.LpW
open Go.RowKit Go.Proofs.YtcimmgpmkfbpdaaGreatDoor Go.Proofs.YtcimmgpmkfbpdaaGreatDoor.Base Go.Proofs.YtcimmgpmkfbpdaaGreatDoor.Mem Go.Proofs.YtcimmgpmkfbpdaaGreatDoor.MemF Go.Proofs.YtcimmgpmkfbpdaaGreatDoor.GiveM Go.Proofs.YtcimmgpmkfbpdaaGreatDoor.RatM Go.Proofs.YtcimmgpmkfbpdaaGreatDoor.Ratio Go.Proofs.YtcimmgpmkfbpdaaGreatDoor.LvM Go.Proofs.YtcimmgpmkfbpdaaGreatDoor.LvQ Go.Proofs.YtcimmgpmkfbpdaaGreatDoor.LvO Go.Proofs.YtcimmgpmkfbpdaaGreatDoor.LvT Go.Proofs.YtcimmgpmkfbpdaaGreatDoor.Blk
set_option linter.unusedVariables false
theorem blkKept {w w' : World} {B' n' size' b : Nat} {e' t : TypeId} {cs : Array Value} {v' : Value} {xs' : List Value} (h : Blk w b t cs) (h' : w.ownsRow B' e' size' v' n' xs') (he : t ≠ e') (hg : w.grownBy w' v'.ownBlock) : Blk w' b t cs := by
 refine h.kept hg fun hh => ?_
 obtain ⟨cur', h2, _⟩ := ownsRow_block h' hh
 unfold Blk at h
 rw [h] at h2
 injection h2 with h2
 injection h2 with _ h3
 exact he h3
def LoRel (C : Cnt) (n : Nat) (w : World) (iv : Value) (wr : World) : Prop :=
 ∃ k v1 v2, k ≤ C.many ∧ iv = .int .i64 (k : Int) ∧ Hid (Blk wr w.heap.size 65 #[.slice none 0 0, .slice none 0 0]) ∧ Hid (Blk wr (w.heap.size + 1) 65 #[v1, v2]) ∧ Hid (OwnI wr (w.heap.size + 2) v1 (fl k (vD C))) ∧ Hid (OwnF wr (w.heap.size + 2) v2 k (outF (fD C n) k)) ∧ Hid (Below w.heap.size w wr)
theorem lo_first {C : Cnt} {n k b0 c1 c2 : Nat} {A1 A2 : Option Addr} {v' : Value} {W Wx w3 : World} (hO : OwnI W (b0 + 2) (.slice A1 k c1) (fl k (vD C))) (hF : OwnF W (b0 + 2) (.slice A2 k c2) k (outF (fD C n) k)) (hz : b0 + 2 ≤ W.heap.size) (hx : Below W.heap.size W Wx)
  (hown : w3.ownsRow (b0 + 2) 2 1 v' (k + 1) (ints (fl k (vD C)) ++ [.int .i64 ((vD C k : Nat) : Int)])) (hg : Wx.grownBy w3 (Value.slice A1 k c1).ownBlock) :
  OwnI w3 (b0 + 2) v' (fl (k + 1) (vD C)) ∧ OwnF w3 (b0 + 2) (.slice A2 k c2) k (outF (fD C n) k) ∧ Below (b0 + 2) W w3 ∧ ∀ b cs, Blk Wx b 52 cs → Blk w3 b 52 cs := by
 obtain ⟨p1, p2⟩ := nextI hz hO (Below.refl (b0 + 2) W) hx hown hg
 exact ⟨p1, rowKept (ownsRow_below hF hx) (OwnI.below hO hx) (by decide) hg, p2, fun b cs h => blkKept h (OwnI.below hO hx) (by decide) hg⟩
theorem lo_second {C : Cnt} {n k b0 c2 bf : Nat} {A2 : Option Addr} {u1 va vb : Value} {w W5 Wy w6 : World} {cf : Array Value} (hK : Blk W5 (b0 + 1) 65 #[u1, .slice A2 k c2]) (hR : Blk W5 b0 65 #[.slice none 0 0, .slice none 0 0]) (hO : OwnI W5 (b0 + 2) va (fl (k + 1) (vD C))) (hF : OwnF W5 (b0 + 2) (.slice A2 k c2) k (outF (fD C n) k)) (hB : Below b0 w W5) (hz : b0 + 2 ≤ W5.heap.size) (h4 : Below W5.heap.size W5 Wy)
  (hown : w6.ownsRow (b0 + 2) 52 2 vb (k + 1) (ints (outF (fD C n) k) ++ [.int .i64 (numQ (fD C n k)), .int .i64 (denQ (fD C n k))])) (hg : Wy.grownBy w6 (Value.slice A2 k c2).ownBlock) (hkf : Blk W5 bf 52 cf) (hne : (Value.slice A2 k c2).ownBlock ≠ some bf) :
  (Blk w6 (b0 + 1) 65 #[u1, .slice A2 k c2] ∧ Blk w6 bf 52 cf) ∧ (w6.cell? ⟨b0 + 1, 0, none⟩ = some u1 ∧ w6.frozen? ⟨b0 + 1, 0, none⟩ = false ∧ w6.cell? ⟨b0 + 1, 1, none⟩ = some (.slice A2 k c2) ∧ w6.frozen? ⟨b0 + 1, 1, none⟩ = false) ∧
  Hid (Blk ((w6.setCell ⟨b0 + 1, 0, none⟩ va).setCell ⟨b0 + 1, 1, none⟩ vb) b0 65 #[.slice none 0 0, .slice none 0 0] ∧ Blk ((w6.setCell ⟨b0 + 1, 0, none⟩ va).setCell ⟨b0 + 1, 1, none⟩ vb) (b0 + 1) 65 #[va, vb] ∧ OwnI ((w6.setCell ⟨b0 + 1, 0, none⟩ va).setCell ⟨b0 + 1, 1, none⟩ vb) (b0 + 2) va (fl (k + 1) (vD C)) ∧ OwnF ((w6.setCell ⟨b0 + 1, 0, none⟩ va).setCell ⟨b0 + 1, 1, none⟩ vb) (b0 + 2) vb (k + 1) (outF (fD C n) (k + 1)) ∧ Below b0 w ((w6.setCell ⟨b0 + 1, 0, none⟩ va).setCell ⟨b0 + 1, 1, none⟩ vb)) := by
 have P2 : Below (b0 + 2) W5 w6 := pushB hF hz h4 hg
 have P3 := rowKept (OwnI.below hO h4) (ownsRow_below hF h4) (by decide) hg
 have K6 := hK.below P2 (by omega)
 exact ⟨⟨K6, (hkf.belowS h4).kept hg hne⟩, ⟨K6.at 0 (v := u1) rfl, K6.frz 0, K6.at 1 (v := .slice A2 k c2) rfl, K6.frz 1⟩, Lib.hid ⟨((hR.below P2 (by omega)).other _ (by simp)).other _ (by simp), (K6.setTo 0 va rfl).setTo 1 vb rfl,
  ownsRow_setCell_below (ownsRow_setCell_below P3 (a := ⟨b0 + 1, 0, none⟩) (by simp) va) (a := ⟨b0 + 1, 1, none⟩) (by simp) vb, ownsRow_setCell_below (ownsRow_setCell_below (pushFr hown) (a := ⟨b0 + 1, 0, none⟩) (by simp) va) (a := ⟨b0 + 1, 1, none⟩) (by simp) vb,
  ((hB.trans (P2.mono (by omega))).setCell (p := ⟨b0 + 1, 0, none⟩) (Nat.le_succ _) va).setCell (p := ⟨b0 + 1, 1, none⟩) (Nat.le_succ _) vb⟩⟩
theorem nw2 (w : World) (E X : Obj) : ((w.alloc X).alloc E).heap[w.heap.size]? = some X := (Below.heap_alloc (w.alloc X) E _ (by simp)).trans (heap_alloc_new w X)
set_option maxHeartbeats 4000000 in
set_option maxRecDepth 100000 in
theorem lawOf_d {A : Option Addr} {c B n M : Nat} {C : Cnt} (hC : C.ok n) (hn : n ≤ 50) (hM : M = 2 ^ n) (w : World) (hx : RdI w B A (fl C.many C.c)) (hB : B ≤ w.heap.size) :
  Calls Tryz.prog 69 #[.int .i64 (C.first : Int), .slice A C.many c, .int .i64 (M : Int)] w (LawRet C n w) := by
 obtain ⟨i0, hi, hz0, hz1, hz2⟩ := info_parts infoI
 obtain ⟨i2, ki, kz0, kz1, kz2⟩ := info_parts infoFr
 have HC := Lib.hid hC
 have hN60 : C.many ≤ 51 := by have := hC.2.1; omega
 have hf1 := hC.1
 have HQ := Lib.hid (fun k (hk : k < C.many) W => LpQ.quo_d (hC.2.2.1 k hk) (Cnt.one_le hC hk) hn hM W)
 have HX := Lib.hid hx
 obtain ⟨W2, hW2⟩ : ∃ W2, W2 = (w.alloc (.cells #[.slice none 0 0, .slice none 0 0] 65)).alloc (.cells #[.slice none 0 0, .slice none 0 0] 65) := ⟨_, rfl⟩
 have H0 : Hid (LoRel C n w (.int .i64 0) W2) := Lib.hid (by
  rw [hW2]
  exact ⟨0, .slice none 0 0, .slice none 0 0, Nat.zero_le _, rfl, Lib.hid ((Blk.new w _ _).alloc _), Lib.hid (Blk.newAt _ _ (by simp)), Lib.hid (World.ownsRow_nil _ _ _ _), Lib.hid (World.ownsRow_nil _ _ _ _), Lib.hid (((Below.refl _ _).alloc (Nat.le_refl _) _).alloc (by simp) _)⟩)
 have HW := Lib.hid hW2
 clear hx hW2 hM hC
 go_enter Tryz.func69, Tryz.ntmps69
 go_wp2
 rw [← HW.out]
 go_loopw [15] (fun iv wr => LoRel C n w iv wr) (fun iv _ => C.many - (intOf iv).toNat)
 case atStart => exact H0.out
 case round =>
  obtain ⟨k, v1, v2, hkN, rfl, KR, KB, HO, HF, HBr⟩ := hrel
  obtain ⟨wp, rfl⟩ : ∃ x, x = wr := ⟨_, rfl⟩
  clear H0
  obtain ⟨A1, c1, e5, _⟩ := HO.out.form
  rw [fl_len] at e5
  obtain ⟨A2, c2, e6, _⟩ := HF.out.form
  subst e5
  subst e6
  have HA2 : Hid (∀ g, (Value.slice A2 k c2).ownBlock = some g → g < wp.heap.size) := Lib.hid (fun g hg => by obtain ⟨_, _, _, h4⟩ := ownsRow_block HF.out hg; exact h4)
  by_cases hlt : k < C.many
  ·obtain ⟨b, off, rfl, hb2, hcc⟩ := (HX.out.below HBr.out hB) (by rw [fl_len]; omega)
   have g1 := hcc k (by rw [fl_len]; exact hlt)
   rw [fl_at _ hlt] at g1
   clear hcc
   have hpos := HC.out.2.2.1 k hlt
   have hle := Cnt.one_le HC.out hlt
   have HQk := Lib.hid (HQ.out k hlt)
   have HSm := Lib.hid (dy_small hle hn)
   have hfd : dy n (C.c k) = fD C n k := rfl
   rw [hfd] at HQk HSm
   have hx50 : (2 : Nat) ^ n ≤ 2 ^ 50 := Nat.pow_le_pow_right (by decide) hn
   have hc50 : C.c k ≤ 1125899906842624 := by omega
   obtain ⟨x, hx⟩ : ∃ x, x = C.c k := ⟨_, rfl⟩
   rw [← hx] at g1 hpos HQk hc50
   clear hx hfd hle hx50
   go_wp2_with fail
   refine (HQk.out _).mono ?_
   rintro e w3 h
   obtain ⟨v, rfl, hv, hb3⟩ := h.is
   have HFr := Lib.hid (ratFraction w3 hv)
   have HB3 := Lib.hid hb3
   clear h hv hb3 HQk
   rw [HSm.out] at HFr
   go_wp2_with fail
   refine HFr.out.mono ?_
   rintro e w4 ⟨rfl, hb4⟩
   have hb5 := Base.Below.nextA HB3.out hb4
   obtain ⟨W, hW⟩ : ∃ W, W = w4.alloc (.cells #[.int .i64 (numQ (fD C n k)), .int .i64 (denQ (fD C n k))] 52) := ⟨_, rfl⟩
   have hb6 : Below wp.heap.size wp W := by rw [hW]; exact hb5.alloc hb5.size _
   have KF : Hid (Blk W w4.heap.size 52 #[.int .i64 (numQ (fD C n k)), .int .i64 (denQ (fD C n k))]) := Lib.hid (by rw [hW]; exact Blk.new w4 _ _)
   have hwz0 : w.heap.size + 1 < wp.heap.size := KB.out.lt
   have hwz : w.heap.size + 2 ≤ W.heap.size := by have := hb6.size; omega
   have HB6 := Lib.hid (Base.Below.nextA HBr.out hb6)
   replace KR := Lib.hid (KR.out.belowS hb6)
   replace KB := Lib.hid (KB.out.belowS hb6)
   replace HO := Lib.hid (OwnI.below HO.out hb6)
   replace HF := Lib.hid (OwnF.below HF.out hb6)
   have HW6 := Lib.hid hW
   have HNE : Hid ((Value.slice A2 k c2).ownBlock ≠ some w4.heap.size) := Lib.hid (fun h => by have h1 := HA2.out _ h; have := hb5.size; omega)
   clear HA2
   clear hb4 hb5 hb6 hW HFr HB3 HBr g1 hwz0
   go_wp2_with fail
   rw [← HW6.out]
   clear HW6
   obtain ⟨x1, hx1⟩ : ∃ x, x = numQ (fD C n k) := ⟨_, rfl⟩
   obtain ⟨x2, hx2⟩ : ∃ x, x = denQ (fD C n k) := ⟨_, rfl⟩
   rw [← hx1, ← hx2] at KF
   have HXE := Lib.hid (And.intro hx1 hx2)
   obtain ⟨z, hz⟩ : ∃ z, z = ((vD C k : Nat) : Int) := ⟨_, rfl⟩
   have HZ := Lib.hid hz
   have hw1 : IntKind.i64.wrap ((C.first : Int) + (k : Int)) = z := by rw [hz, IntKind.wrap_i64]; unfold vD; omega
   have hk60 : k ≤ 60 := by omega
   have d0 := KB.out.at 0 (v := .slice A1 k c1) rfl
   have d1 := KB.out.at 1 (v := .slice A2 k c2) rfl
   have f0 := KF.out.at 0 (v := .int .i64 x1) rfl
   have f1 := KF.out.at 1 (v := .int .i64 x2) rfl
   have lF := KF.out.lt
   have lB := KB.out.lt
   have lB2 : w.heap.size < W.heap.size := by omega
   have lF2 : w4.heap.size < W.heap.size + 1 := by omega
   have lB3 : w.heap.size + 1 < W.heap.size + 1 := by omega
   have hra := World.ownsRow.alloc HO.out (.cells #[.int .i64 z] 2)
   have hrb := World.ownsRow.alloc (World.ownsRow.alloc HO.out (.cells #[.int .i64 x1, .int .i64 x2] 52)) (.cells #[.int .i64 z] 2)
   have hrc := World.ownsRow.alloc (World.ownsRow.alloc HO.out (.cells #[.int .i64 z] 2)) (.cells #[.int .i64 x1, .int .i64 x2] 52)
   rw [fl_len] at hra hrb hrc
   have HWa := Lib.hid hra
   have HWb := Lib.hid hrb
   have HWc := Lib.hid hrc
   have HN : Hid (∀ u1 u2 w8, (Blk w8 w.heap.size 65 #[.slice none 0 0, .slice none 0 0] ∧ Blk w8 (w.heap.size + 1) 65 #[u1, u2] ∧ OwnI w8 (w.heap.size + 2) u1 (fl (k + 1) (vD C)) ∧ OwnF w8 (w.heap.size + 2) u2 (k + 1) (outF (fD C n) (k + 1)) ∧ Below w.heap.size w w8) → LoRel C n w (.int .i64 ((k : Int) + 1)) w8) := Lib.hid fun u1 u2 w8 h => ⟨k + 1, u1, u2, hlt, by simp, Lib.hid h.1, Lib.hid h.2.1, Lib.hid h.2.2.1, Lib.hid h.2.2.2.1, Lib.hid h.2.2.2.2⟩
   clear hx1 hx2 hz hra hrb hrc HSm hpos hc50
   obtain ⟨S, hSE⟩ : ∃ S : World → Prop, S = fun w' => w'.cell? ⟨w.heap.size + 1, 0, none⟩ = some (.slice A1 k c1) ∧ w'.cell? ⟨w.heap.size + 1, 1, none⟩ = some (.slice A2 k c2) ∧ w'.cell? ⟨w4.heap.size, 0, none⟩ = some (.int .i64 x1) ∧ w'.cell? ⟨w4.heap.size, 1, none⟩ = some (.int .i64 x2) := ⟨_, rfl⟩
   have HSE := Lib.hid hSE
   have HSA : Hid (∀ V, Blk V (w.heap.size + 1) 65 #[.slice A1 k c1, .slice A2 k c2] → Blk V w4.heap.size 52 #[.int .i64 x1, .int .i64 x2] → S V) := Lib.hid (fun V h1 h2 => by rw [hSE]; exact ⟨h1.at 0 rfl, h1.at 1 rfl, h2.at 0 rfl, h2.at 1 rfl⟩)
   clear hSE
   refine Late.start S [13, 14, 15] 16 (by kernel_rfl) (HSA.out _ KB.out KF.out) rfl (fun hS => ?_)
   clear d0 d1 f0 f1
   refine Late.take (i := 0) (v := ?_) (by rfl) (by kernel_rfl) (by kernel_rfl) (by kernel_rfl) (by intro _ _ _ h; exact h) (by kernel_rfl) (by kernel_rfl) (Or.inl ⟨by rfl, ?_⟩) hS ?_
   rotate_left
   ·(intro W' hW'; rw [HSE.out] at hW'; obtain ⟨q0, q1, q2, q3⟩ := hW'; go_simp; (try with_reducible rfl))
   try simp only [Act.put, List.setIfInBounds_toArray, List.set_cons_zero, List.set_cons_succ]
   refine Late.take (i := 1) (v := ?_) (by rfl) (by kernel_rfl) (by kernel_rfl) (by kernel_rfl) (by intro _ _ _ h; exact h) (by kernel_rfl) (by kernel_rfl) (Or.inl ⟨by rfl, ?_⟩) hS ?_
   rotate_left
   ·(intro W' hW'; rw [HSE.out] at hW'; obtain ⟨q0, q1, q2, q3⟩ := hW'; go_simp; (try with_reducible rfl))
   try simp only [Act.put, List.setIfInBounds_toArray, List.set_cons_zero, List.set_cons_succ]
   refine Late.take (i := 2) (v := ?_) (by rfl) (by kernel_rfl) (by kernel_rfl) (by kernel_rfl) (by intro _ _ _ h; exact h) (by kernel_rfl) (by kernel_rfl) (Or.inl ⟨by rfl, ?_⟩) hS ?_
   rotate_left
   ·(intro W' hW'; rw [HSE.out] at hW'; obtain ⟨q0, q1, q2, q3⟩ := hW'; go_simp; (try with_reducible rfl))
   try simp only [Act.put, List.setIfInBounds_toArray, List.set_cons_zero, List.set_cons_succ]
   refine Late.take (i := 3) (v := ?_) (by rfl) (by kernel_rfl) (by kernel_rfl) (by kernel_rfl) (by intro _ _ _ h; exact h) (by kernel_rfl) (by kernel_rfl) (Or.inl ⟨by rfl, ?_⟩) hS ?_
   rotate_left
   ·(intro W' hW'; rw [HSE.out] at hW'; obtain ⟨q0, q1, q2, q3⟩ := hW'; go_simp; (try with_reducible rfl))
   try simp only [Act.put, List.setIfInBounds_toArray, List.set_cons_zero, List.set_cons_succ]
   refine Late.take (i := 4) (v := ?_) (by rfl) (by kernel_rfl) (by kernel_rfl) (by kernel_rfl) (by intro _ _ _ h; exact h) (by kernel_rfl) (by kernel_rfl) (Or.inl ⟨by rfl, ?_⟩) hS ?_
   rotate_left
   ·(intro W' hW'; rw [HSE.out] at hW'; obtain ⟨q0, q1, q2, q3⟩ := hW'; go_simp; (try with_reducible rfl))
   try simp only [Act.put, List.setIfInBounds_toArray, List.set_cons_zero, List.set_cons_succ]
   refine Late.take (i := 7) (v := ?_) (by rfl) (by kernel_rfl) (by kernel_rfl) (by kernel_rfl) (by intro _ _ _ h; exact h) (by kernel_rfl) (by kernel_rfl) (Or.inl ⟨by rfl, ?_⟩) hS ?_
   rotate_left
   ·(intro W' hW'; rw [HSE.out] at hW'; obtain ⟨q0, q1, q2, q3⟩ := hW'; go_simp; (try with_reducible rfl))
   try simp only [Act.put, List.setIfInBounds_toArray, List.set_cons_zero, List.set_cons_succ]
   refine Late.take (i := 8) (v := ?_) (by rfl) (by kernel_rfl) (by kernel_rfl) (by kernel_rfl) (by intro _ _ _ h; exact h) (by kernel_rfl) (by kernel_rfl) (Or.inl ⟨by rfl, ?_⟩) hS ?_
   rotate_left
   ·(intro W' hW'; rw [HSE.out] at hW'; obtain ⟨q0, q1, q2, q3⟩ := hW'; go_simp; (try with_reducible rfl))
   try simp only [Act.put, List.setIfInBounds_toArray, List.set_cons_zero, List.set_cons_succ]
   refine Late.take (i := 9) (v := ?_) (by rfl) (by kernel_rfl) (by kernel_rfl) (by kernel_rfl) (by intro _ _ _ h; exact h) (by kernel_rfl) (by kernel_rfl) (Or.inl ⟨by rfl, ?_⟩) hS ?_
   rotate_left
   ·(intro W' hW'; rw [HSE.out] at hW'; obtain ⟨q0, q1, q2, q3⟩ := hW'; go_simp; (try with_reducible rfl))
   try simp only [Act.put, List.setIfInBounds_toArray, List.set_cons_zero, List.set_cons_succ]
   refine Late.two (i := 5) (i' := 10) (by kernel_rfl) (by rfl) (by rfl) (fun K hK => ?_) (fun K hK => ?_)
   ·go_simp
    refine hK.out _ _ (fun _ => HSA.out _ (KB.out.alloc _) (KF.out.alloc _)) (fun hS' => ?_)
    have hS := hS' (by decide)
    clear hS' hK
    clear K
    try simp only [Act.put, List.setIfInBounds_toArray, List.set_cons_zero, List.set_cons_succ]
    refine Late.two (i := 6) (i' := 10) (by kernel_rfl) (by rfl) (by rfl) (fun K hK => ?_) (fun K hK => ?_)
    ·(refine step_append_lies _ (by rfl) _ _ _ (by rfl) (w.heap.size + 2) 2 i0 _ 1 8 Tryz.underlying63 hi hz0 hz1 hz2 rfl (by omega) (.slice A1 k c1) k _ (by rfl) ((HWa.out).drew) ⟨W.heap.size, 0, none⟩ 1 1 [.int .i64 z] (by rfl) (by rfl) (World.news_of_block (cs := #[.int .i64 z]) (t := 2) (fr := (0, 0)) (heap_alloc_new W _)) one_int (by omega) (by simp only [maxLen]; omega) (by omega) (by first | omega | (simp; omega)) (W.heap.size + 1) (by simp) ?_; intro gg cap w5 hown1 hg1 hat1 hlt1; have q3 : Below W.heap.size W ((W.alloc (.cells #[.int .i64 z] 2)).drew) := (((Below.refl _ _).alloc (Nat.le_refl _) _).drew); obtain ⟨p1, p2, p3, p4⟩ := lo_first HO.out HF.out hwz q3 (by rw [← HZ.out]; exact hown1) hg1; have KB5 := Lib.hid (KB.out.below p3 (by omega)); have KR5 := Lib.hid (KR.out.below p3 (by omega)); have KF5 := Lib.hid (p4 _ _ (KF.out.belowS q3)); have t0 := KB5.out.at 0 (v := .slice A1 k c1) rfl; have t1 := KB5.out.at 1 (v := .slice A2 k c2) rfl; have y0 := KF5.out.at 0 (v := .int .i64 x1) rfl; have y1 := KF5.out.at 1 (v := .int .i64 x2) rfl; have l0 := KB5.out.lt; have l1 := KF5.out.lt; have HO5 := Lib.hid p1; have HF5 := Lib.hid p2; have HB5 := Lib.hid (HB6.out.trans (p3.mono (by omega : w.heap.size ≤ w.heap.size + 2))); have hs5 := p3.size; have hz5 : w.heap.size + 2 ≤ w5.heap.size := Nat.le_trans hwz hs5; skip; clear hown1 hg1 hat1 p1 p2 p3 p4 q3)
     refine hK.out _ _ (fun _ => HSA.out _ (KB5.out) (KF5.out)) (fun hS' => ?_)
     have hS := hS' (by decide)
     clear hS' hK
     clear K
     try simp only [Act.put, List.setIfInBounds_toArray, List.set_cons_zero, List.set_cons_succ]
     refine Late.take (i := 12) (v := ?_) (by rfl) (by kernel_rfl) (by kernel_rfl) (by kernel_rfl) (by intro _ _ _ h; exact h) (by kernel_rfl) (by kernel_rfl) (Or.inl ⟨by rfl, ?_⟩) hS ?_
     rotate_left
     ·(intro W' hW'; rw [HSE.out] at hW'; obtain ⟨q0, q1, q2, q3⟩ := hW'; go_simp; (try with_reducible rfl))
     try simp only [Act.put, List.setIfInBounds_toArray, List.set_cons_zero, List.set_cons_succ]
     refine Late.one (i := 10) (by kernel_rfl) (by rfl) (fun K hK => ?_)
     go_simp
     refine hK.out _ _ (fun _ => HSA.out _ (KB5.out.alloc _) (KF5.out.alloc _)) (fun hS' => ?_)
     have hS := hS' (by decide)
     clear hS' hK
     clear K
     try simp only [Act.put, List.setIfInBounds_toArray, List.set_cons_zero, List.set_cons_succ]
     refine Late.one (i := 11) (by kernel_rfl) (by rfl) (fun K hK => ?_)
     (refine step_append_lies _ (by rfl) _ _ _ (by rfl) (w.heap.size + 2) 52 i2 _ 2 16 Tryz.underlying28 ki kz0 kz1 kz2 rfl (by omega) (.slice A2 k c2) k _ (by rfl) (World.ownsRow.alloc HF5.out _) ⟨w5.heap.size, 0, none⟩ 1 1 [.int .i64 x1, .int .i64 x2] (by rfl) (by rfl) (World.news_of_block (cs := #[.int .i64 x1, .int .i64 x2]) (t := 52) (fr := (0, 0)) (heap_alloc_new w5 _)) ones_two (by omega) (by simp only [maxLen]; omega) (by omega) (by first | omega | (simp only [World.size_alloc]; omega)) (w5.heap.size + 1) (by simp) ?_; intro gg2 cap2 w6 hown2 hg2 hat2 hlt2; rw [HXE.out.1, HXE.out.2] at hown2; obtain ⟨⟨KB6, KF6⟩, ⟨s0, s1, s2, s3⟩, HFN⟩ := lo_second KB5.out KR5.out HO5.out HF5.out HB5.out hz5 ((Below.refl _ _).alloc (Nat.le_refl _) _) hown2 hg2 KF5.out HNE.out; clear hown2 hg2 hat2 t0 t1 y0 y1)
     refine hK.out _ _ (fun _ => HSA.out _ (KB6) (KF6)) (fun hS' => ?_)
     have hS := hS' (by decide)
     clear hS' hK
     clear K
     try simp only [Act.put, List.setIfInBounds_toArray, List.set_cons_zero, List.set_cons_succ]
     refine Late.one (i := 13) (by kernel_rfl) (by rfl) (fun K hK => ?_)
     go_simp
     refine hK.out _ _ (fun h => absurd h (by decide)) (fun _ => ?_)
     clear hK
     clear K
     try simp only [Act.put, List.setIfInBounds_toArray, List.set_cons_zero, List.set_cons_succ]
     refine Late.one (i := 14) (by kernel_rfl) (by rfl) (fun K hK => ?_)
     go_simp
     refine hK.out _ _ (fun h => absurd h (by decide)) (fun _ => ?_)
     clear hK
     clear K
     try simp only [Act.put, List.setIfInBounds_toArray, List.set_cons_zero, List.set_cons_succ]
     refine Late.one (i := 15) (by kernel_rfl) (by rfl) (fun K hK => ?_)
     go_simp
     refine hK.out _ _ (fun h => absurd h (by decide)) (fun _ => ?_)
     clear hK
     clear K
     try simp only [Act.put, List.setIfInBounds_toArray, List.set_cons_zero, List.set_cons_succ]
     refine Late.done (by kernel_rfl) ?_ _
     clear s0 s1 s2 s3 hS
     go_wp2
     go_roundw
     case rel => exact HN.out _ _ _ HFN.out
     case measure => simp [intOf]; omega
    ·go_simp
     refine hK.out _ _ (fun _ => HSA.out _ ((KB.out.alloc _).alloc _) ((KF.out.alloc _).alloc _)) (fun hS' => ?_)
     have hS := hS' (by decide)
     clear hS' hK
     clear K
     try simp only [Act.put, List.setIfInBounds_toArray, List.set_cons_zero, List.set_cons_succ]
     refine Late.one (i := 6) (by kernel_rfl) (by rfl) (fun K hK => ?_)
     (refine step_append_lies _ (by rfl) _ _ _ (by rfl) (w.heap.size + 2) 2 i0 _ 1 8 Tryz.underlying63 hi hz0 hz1 hz2 rfl (by omega) (.slice A1 k c1) k _ (by rfl) ((HWc.out).drew) ⟨W.heap.size, 0, none⟩ 1 1 [.int .i64 z] (by rfl) (by rfl) (World.news_of_block (cs := #[.int .i64 z]) (t := 2) (fr := (0, 0)) (nw2 W _ _)) one_int (by omega) (by simp only [maxLen]; omega) (by omega) (by first | omega | (simp; omega)) (W.heap.size + 2) (by simp) ?_; intro gg cap w5 hown1 hg1 hat1 hlt1; have q3 : Below W.heap.size W (((W.alloc (.cells #[.int .i64 z] 2)).alloc (.cells #[.int .i64 x1, .int .i64 x2] 52)).drew) := ((((Below.refl _ _).alloc (Nat.le_refl _) _).alloc (by simp) _).drew); obtain ⟨p1, p2, p3, p4⟩ := lo_first HO.out HF.out hwz q3 (by rw [← HZ.out]; exact hown1) hg1; have KB5 := Lib.hid (KB.out.below p3 (by omega)); have KR5 := Lib.hid (KR.out.below p3 (by omega)); have KF5 := Lib.hid (p4 _ _ (KF.out.belowS q3)); have t0 := KB5.out.at 0 (v := .slice A1 k c1) rfl; have t1 := KB5.out.at 1 (v := .slice A2 k c2) rfl; have y0 := KF5.out.at 0 (v := .int .i64 x1) rfl; have y1 := KF5.out.at 1 (v := .int .i64 x2) rfl; have l0 := KB5.out.lt; have l1 := KF5.out.lt; have HO5 := Lib.hid p1; have HF5 := Lib.hid p2; have HB5 := Lib.hid (HB6.out.trans (p3.mono (by omega : w.heap.size ≤ w.heap.size + 2))); have hs5 := p3.size; have hz5 : w.heap.size + 2 ≤ w5.heap.size := Nat.le_trans hwz hs5; (have KN := Lib.hid (p4 (W.heap.size + 1) #[.int .i64 x1, .int .i64 x2] (by have := heap_alloc_new (W.alloc (.cells #[.int .i64 z] 2)) (.cells #[.int .i64 x1, .int .i64 x2] 52); rwa [World.size_alloc] at this))); clear hown1 hg1 hat1 p1 p2 p3 p4 q3)
     refine hK.out _ _ (fun _ => HSA.out _ (KB5.out) (KF5.out)) (fun hS' => ?_)
     have hS := hS' (by decide)
     clear hS' hK
     clear K
     try simp only [Act.put, List.setIfInBounds_toArray, List.set_cons_zero, List.set_cons_succ]
     refine Late.take (i := 12) (v := ?_) (by rfl) (by kernel_rfl) (by kernel_rfl) (by kernel_rfl) (by intro _ _ _ h; exact h) (by kernel_rfl) (by kernel_rfl) (Or.inl ⟨by rfl, ?_⟩) hS ?_
     rotate_left
     ·(intro W' hW'; rw [HSE.out] at hW'; obtain ⟨q0, q1, q2, q3⟩ := hW'; go_simp; (try with_reducible rfl))
     try simp only [Act.put, List.setIfInBounds_toArray, List.set_cons_zero, List.set_cons_succ]
     refine Late.one (i := 11) (by kernel_rfl) (by rfl) (fun K hK => ?_)
     (refine step_append_lies _ (by rfl) _ _ _ (by rfl) (w.heap.size + 2) 52 i2 _ 2 16 Tryz.underlying28 ki kz0 kz1 kz2 rfl (by omega) (.slice A2 k c2) k _ (by rfl) (HF5.out) ⟨(W.heap.size + 1), 0, none⟩ 1 1 [.int .i64 x1, .int .i64 x2] (by rfl) (by rfl) (World.news_of_block (cs := #[.int .i64 x1, .int .i64 x2]) (t := 52) (fr := (0, 0)) (KN.out)) ones_two (by omega) (by simp only [maxLen]; omega) (by omega) (by first | omega | (simp only [World.size_alloc]; omega)) (w5.heap.size) (by simp) ?_; intro gg2 cap2 w6 hown2 hg2 hat2 hlt2; rw [HXE.out.1, HXE.out.2] at hown2; obtain ⟨⟨KB6, KF6⟩, ⟨s0, s1, s2, s3⟩, HFN⟩ := lo_second KB5.out KR5.out HO5.out HF5.out HB5.out hz5 (Below.refl _ _) hown2 hg2 KF5.out HNE.out; clear hown2 hg2 hat2 t0 t1 y0 y1)
     refine hK.out _ _ (fun _ => HSA.out _ (KB6) (KF6)) (fun hS' => ?_)
     have hS := hS' (by decide)
     clear hS' hK
     clear K
     try simp only [Act.put, List.setIfInBounds_toArray, List.set_cons_zero, List.set_cons_succ]
     refine Late.one (i := 13) (by kernel_rfl) (by rfl) (fun K hK => ?_)
     go_simp
     refine hK.out _ _ (fun h => absurd h (by decide)) (fun _ => ?_)
     clear hK
     clear K
     try simp only [Act.put, List.setIfInBounds_toArray, List.set_cons_zero, List.set_cons_succ]
     refine Late.one (i := 14) (by kernel_rfl) (by rfl) (fun K hK => ?_)
     go_simp
     refine hK.out _ _ (fun h => absurd h (by decide)) (fun _ => ?_)
     clear hK
     clear K
     try simp only [Act.put, List.setIfInBounds_toArray, List.set_cons_zero, List.set_cons_succ]
     refine Late.one (i := 15) (by kernel_rfl) (by rfl) (fun K hK => ?_)
     go_simp
     refine hK.out _ _ (fun h => absurd h (by decide)) (fun _ => ?_)
     clear hK
     clear K
     try simp only [Act.put, List.setIfInBounds_toArray, List.set_cons_zero, List.set_cons_succ]
     refine Late.done (by kernel_rfl) ?_ _
     clear s0 s1 s2 s3 hS
     go_wp2
     go_roundw
     case rel => exact HN.out _ _ _ HFN.out
     case measure => simp [intOf]; omega
   ·go_simp
    refine hK.out _ _ (fun _ => HSA.out _ (KB.out.alloc _) (KF.out.alloc _)) (fun hS' => ?_)
    have hS := hS' (by decide)
    clear hS' hK
    clear K
    try simp only [Act.put, List.setIfInBounds_toArray, List.set_cons_zero, List.set_cons_succ]
    refine Late.one (i := 5) (by kernel_rfl) (by rfl) (fun K hK => ?_)
    go_simp
    refine hK.out _ _ (fun _ => HSA.out _ ((KB.out.alloc _).alloc _) ((KF.out.alloc _).alloc _)) (fun hS' => ?_)
    have hS := hS' (by decide)
    clear hS' hK
    clear K
    try simp only [Act.put, List.setIfInBounds_toArray, List.set_cons_zero, List.set_cons_succ]
    refine Late.one (i := 6) (by kernel_rfl) (by rfl) (fun K hK => ?_)
    (refine step_append_lies _ (by rfl) _ _ _ (by rfl) (w.heap.size + 2) 2 i0 _ 1 8 Tryz.underlying63 hi hz0 hz1 hz2 rfl (by omega) (.slice A1 k c1) k _ (by rfl) ((HWb.out).drew) ⟨(W.heap.size + 1), 0, none⟩ 1 1 [.int .i64 z] (by rfl) (by rfl) (World.news_of_block (cs := #[.int .i64 z]) (t := 2) (fr := (0, 0)) ((by have := heap_alloc_new (W.alloc (.cells #[.int .i64 x1, .int .i64 x2] 52)) (.cells #[.int .i64 z] 2); rwa [World.size_alloc] at this))) one_int (by omega) (by simp only [maxLen]; omega) (by omega) (by first | omega | (simp; omega)) (W.heap.size + 2) (by simp) ?_; intro gg cap w5 hown1 hg1 hat1 hlt1; have q3 : Below W.heap.size W (((W.alloc (.cells #[.int .i64 x1, .int .i64 x2] 52)).alloc (.cells #[.int .i64 z] 2)).drew) := ((((Below.refl _ _).alloc (Nat.le_refl _) _).alloc (by simp) _).drew); obtain ⟨p1, p2, p3, p4⟩ := lo_first HO.out HF.out hwz q3 (by rw [← HZ.out]; exact hown1) hg1; have KB5 := Lib.hid (KB.out.below p3 (by omega)); have KR5 := Lib.hid (KR.out.below p3 (by omega)); have KF5 := Lib.hid (p4 _ _ (KF.out.belowS q3)); have t0 := KB5.out.at 0 (v := .slice A1 k c1) rfl; have t1 := KB5.out.at 1 (v := .slice A2 k c2) rfl; have y0 := KF5.out.at 0 (v := .int .i64 x1) rfl; have y1 := KF5.out.at 1 (v := .int .i64 x2) rfl; have l0 := KB5.out.lt; have l1 := KF5.out.lt; have HO5 := Lib.hid p1; have HF5 := Lib.hid p2; have HB5 := Lib.hid (HB6.out.trans (p3.mono (by omega : w.heap.size ≤ w.heap.size + 2))); have hs5 := p3.size; have hz5 : w.heap.size + 2 ≤ w5.heap.size := Nat.le_trans hwz hs5; (have KN := Lib.hid (p4 W.heap.size #[.int .i64 x1, .int .i64 x2] (nw2 W _ _))); clear hown1 hg1 hat1 p1 p2 p3 p4 q3)
    refine hK.out _ _ (fun _ => HSA.out _ (KB5.out) (KF5.out)) (fun hS' => ?_)
    have hS := hS' (by decide)
    clear hS' hK
    clear K
    try simp only [Act.put, List.setIfInBounds_toArray, List.set_cons_zero, List.set_cons_succ]
    refine Late.take (i := 12) (v := ?_) (by rfl) (by kernel_rfl) (by kernel_rfl) (by kernel_rfl) (by intro _ _ _ h; exact h) (by kernel_rfl) (by kernel_rfl) (Or.inl ⟨by rfl, ?_⟩) hS ?_
    rotate_left
    ·(intro W' hW'; rw [HSE.out] at hW'; obtain ⟨q0, q1, q2, q3⟩ := hW'; go_simp; (try with_reducible rfl))
    try simp only [Act.put, List.setIfInBounds_toArray, List.set_cons_zero, List.set_cons_succ]
    refine Late.one (i := 11) (by kernel_rfl) (by rfl) (fun K hK => ?_)
    (refine step_append_lies _ (by rfl) _ _ _ (by rfl) (w.heap.size + 2) 52 i2 _ 2 16 Tryz.underlying28 ki kz0 kz1 kz2 rfl (by omega) (.slice A2 k c2) k _ (by rfl) (HF5.out) ⟨W.heap.size, 0, none⟩ 1 1 [.int .i64 x1, .int .i64 x2] (by rfl) (by rfl) (World.news_of_block (cs := #[.int .i64 x1, .int .i64 x2]) (t := 52) (fr := (0, 0)) (KN.out)) ones_two (by omega) (by simp only [maxLen]; omega) (by omega) (by first | omega | (simp only [World.size_alloc]; omega)) (w5.heap.size) (by simp) ?_; intro gg2 cap2 w6 hown2 hg2 hat2 hlt2; rw [HXE.out.1, HXE.out.2] at hown2; obtain ⟨⟨KB6, KF6⟩, ⟨s0, s1, s2, s3⟩, HFN⟩ := lo_second KB5.out KR5.out HO5.out HF5.out HB5.out hz5 (Below.refl _ _) hown2 hg2 KF5.out HNE.out; clear hown2 hg2 hat2 t0 t1 y0 y1)
    refine hK.out _ _ (fun _ => HSA.out _ (KB6) (KF6)) (fun hS' => ?_)
    have hS := hS' (by decide)
    clear hS' hK
    clear K
    try simp only [Act.put, List.setIfInBounds_toArray, List.set_cons_zero, List.set_cons_succ]
    refine Late.one (i := 13) (by kernel_rfl) (by rfl) (fun K hK => ?_)
    go_simp
    refine hK.out _ _ (fun h => absurd h (by decide)) (fun _ => ?_)
    clear hK
    clear K
    try simp only [Act.put, List.setIfInBounds_toArray, List.set_cons_zero, List.set_cons_succ]
    refine Late.one (i := 14) (by kernel_rfl) (by rfl) (fun K hK => ?_)
    go_simp
    refine hK.out _ _ (fun h => absurd h (by decide)) (fun _ => ?_)
    clear hK
    clear K
    try simp only [Act.put, List.setIfInBounds_toArray, List.set_cons_zero, List.set_cons_succ]
    refine Late.one (i := 15) (by kernel_rfl) (by rfl) (fun K hK => ?_)
    go_simp
    refine hK.out _ _ (fun h => absurd h (by decide)) (fun _ => ?_)
    clear hK
    clear K
    try simp only [Act.put, List.setIfInBounds_toArray, List.set_cons_zero, List.set_cons_succ]
    refine Late.done (by kernel_rfl) ?_ _
    clear s0 s1 s2 s3 hS
    go_wp2
    go_roundw
    case rel => exact HN.out _ _ _ HFN.out
    case measure => simp [intOf]; omega
  ·obtain rfl : k = C.many := by omega
   have s0 := KB.out.at 0 (v := .slice A1 C.many c1) rfl
   have s1 := KB.out.at 1 (v := .slice A2 C.many c2) rfl
   have r0 := KR.out.at 0 (v := .slice none 0 0) rfl
   have r1 := KR.out.at 1 (v := .slice none 0 0) rfl
   have f0 := KR.out.frz 0
   have f1 := KR.out.frz 1
   have KK := (KR.out.setTo 0 (.slice A1 C.many c1) rfl).setTo 1 (.slice A2 C.many c2) rfl
   have k0 := KK.at 0 (v := .slice A1 C.many c1) rfl
   have k1 := KK.at 1 (v := .slice A2 C.many c2) rfl
   have HFIN := Lib.hid (LawRet.put HO.out HF.out (by omega) HBr.out)
   clear KK HO HF KB KR HBr HX HQ HC
   go_wp2
   refine bodyPost_ret (v := .agg #[.slice A1 C.many c1, .slice A2 C.many c2]) (by simp [results, Tryz.results69, go_sem, k0, k1]) rfl ?_
   exact HFIN.out
end Go.Proofs.YtcimmgpmkfbpdaaGreatDoor.LpW
namespace Go.Proofs.YtcimmgpmkfbpdaaGreatDoor.Choose
open Go.RowKit Go.Proofs.YtcimmgpmkfbpdaaGreatDoor Go.Proofs.YtcimmgpmkfbpdaaGreatDoor.Base Go.Proofs.YtcimmgpmkfbpdaaGreatDoor.Bits
set_option linter.unusedVariables false
def ch : Nat → Nat → Nat
 | _, 0 => 1
 | 0, _ + 1 => 0
 | n + 1, k + 1 => ch n k + ch n (k + 1)
theorem ch_zero (n : Nat) : ch n 0 = 1 := by cases n <;> rfl
theorem ch_over : ∀ n k, n < k → ch n k = 0
 | 0, k + 1, _ => rfl
 | n + 1, k + 1, h => by rw [ch, ch_over n k (by omega), ch_over n (k + 1) (by omega)]
theorem ch_self : ∀ n, ch n n = 1
 | 0 => rfl
 | n + 1 => by rw [ch, ch_self n, ch_over n (n + 1) (by omega)]
theorem ch_row : ∀ n k, (n + 1) * ch n k = (k + 1) * ch (n + 1) (k + 1)
 | n, 0 => by
  induction n with
  | zero => rfl
  | succ n ih =>
   rw [ch_zero] at *
   rw [ch, ch_zero]
   omega
 | 0, k + 1 => by rw [ch, ch, ch_over 0 (k + 1) (by omega), ch_over 0 (k + 2) (by omega)]; simp
 | n + 1, k + 1 => by
  have h1 := ch_row n k
  have h2 := ch_row n (k + 1)
  have e1 : ch (n + 1) (k + 1) = ch n k + ch n (k + 1) := rfl
  have e2 : ch (n + 2) (k + 2) = ch (n + 1) (k + 1) + ch (n + 1) (k + 2) := rfl
  have e3 : ch (n + 1) (k + 2) = ch n (k + 1) + ch n (k + 2) := rfl
  rw [show n + 1 + 1 = n + 2 from rfl, show k + 1 + 1 = k + 2 from rfl] at *
  generalize ch n k = a at *
  generalize ch n (k + 1) = b at *
  generalize ch n (k + 2) = c at *
  generalize ch (n + 1) (k + 1) = d at *
  generalize ch (n + 1) (k + 2) = e at *
  generalize ch (n + 2) (k + 2) = f at *
  subst e2
  have h3 : (n + 1) * (a + b) = (k + 1) * d + (k + 2) * e := by rw [Nat.mul_add, h1, h2]
  rw [← e1] at h3
  have h4 : (n + 2) * d = (n + 1) * d + d := by rw [show n + 2 = n + 1 + 1 from rfl, Nat.add_mul, Nat.one_mul]
  have h5 : (k + 2) * (d + e) = (k + 1) * d + d + (k + 2) * e := by rw [Nat.mul_add, show k + 2 = k + 1 + 1 from rfl, Nat.add_mul (k + 1) 1 d, Nat.one_mul]
  omega
theorem ch_next : ∀ n k, k ≤ n → ch n (k + 1) * (k + 1) = ch n k * (n - k)
 | 0, k, h => by
  obtain rfl : k = 0 := by omega
  rfl
 | n + 1, 0, _ => by
  have := ch_row n 0
  rw [ch_zero] at *
  omega
 | n + 1, k + 1, h => by
  have h1 := ch_row n (k + 1)
  have h2 := ch_row n k
  have h3 := ch_next n k (by omega)
  rw [show n + 1 - (k + 1) = n - k by omega, Nat.mul_comm, ← h1, Nat.mul_comm (ch (n + 1) (k + 1))]
  have e : (k + 1) * ((n - k) * ch (n + 1) (k + 1)) = (k + 1) * ((n + 1) * ch n (k + 1)) := by
   rw [Nat.mul_left_comm, ← h2, Nat.mul_left_comm (k + 1) (n + 1), Nat.mul_comm (k + 1) (ch n (k + 1)), h3, Nat.mul_left_comm, Nat.mul_comm (n - k)]
  exact (Nat.eq_of_mul_eq_mul_left (Nat.succ_pos k) e).symm
theorem ch_div {n k : Nat} (h : k ≤ n) : ch n k * (n - k) / (k + 1) = ch n (k + 1) := by
 rw [← ch_next n k h]
 exact Nat.mul_div_cancel _ (Nat.succ_pos k)
theorem ch_sym : ∀ n k, k ≤ n → ch n (n - k) = ch n k
 | 0, k, h => by
  obtain rfl : k = 0 := by omega
  rfl
 | n + 1, 0, _ => by rw [Nat.sub_zero, ch_self, ch_zero]
 | n + 1, k + 1, h => by
  rcases Nat.lt_or_ge k n with hlt | hge
  ·rw [show n + 1 - (k + 1) = (n - (k + 1)) + 1 by omega, ch, ch, ch_sym n (k + 1) (by omega), show n - (k + 1) + 1 = n - k by omega, ch_sym n k (by omega), Nat.add_comm]
  ·obtain rfl : k = n := by omega
   rw [Nat.sub_self, ch_zero, ch_self]
theorem ch_min {n k : Nat} (h : k ≤ n) : ch n (min k (n - k)) = ch n k := by
 rcases Nat.le_total k (n - k) with h1 | h1
 ·rw [Nat.min_eq_left h1]
 ·rw [Nat.min_eq_right h1, ch_sym n k h]
theorem ch_le2 : ∀ n k, ch n k ≤ 2 ^ n
 | 0, 0 => by decide
 | 0, k + 1 => by simp [ch]
 | n + 1, 0 => by rw [ch_zero]; exact Nat.two_pow_pos _
 | n + 1, k + 1 => by
  have h1 := ch_le2 n k
  have h2 := ch_le2 n (k + 1)
  rw [ch, Nat.pow_succ]; omega
theorem and32 (x : Int) (h0 : 0 ≤ x) (h : x < 18446744073709551616) : bits .and .u64 x 4294967295 = x % 4294967296 := by
 have := u64_and_nat x.toNat 4294967295 (by omega) (by omega)
 rw [show (4294967295 : Nat) = 2 ^ 32 - 1 from rfl, Nat.and_two_pow_sub_one_eq_mod] at this
 have e : (x.toNat : Int) = x := by omega
 rw [e, show ((2 ^ 32 - 1 : Nat) : Int) = 4294967295 from rfl] at this
 rw [this]; omega
set_option maxHeartbeats 400000 in
theorem mul64_any (x y : Nat) (w : World) (hx : x < 18446744073709551616) (hy : y < 4294967296) (hxy : x * y < 18446744073709551616) :
  Calls Tryz.prog 98 #[.int .u64 x, .int .u64 y] w fun e w' => e = .returned (.tuple #[.int .u64 0, .int .u64 (x * y : Nat)]) ∧ w = w' := by
 have e1 := and32 y (by omega) (by omega)
 have e2 := and32 x (by omega) (by omega)
 have e3 : (y : Int) % 4294967296 = y := by omega
 have e4 : (y : Int) / 4294967296 = 0 := by omega
 rw [e3] at e1
 obtain ⟨a, ha⟩ : ∃ a, a = x / 4294967296 := ⟨_, rfl⟩
 obtain ⟨b, hb⟩ : ∃ b, b = x % 4294967296 := ⟨_, rfl⟩
 have hb2 : b < 4294967296 := by omega
 have hxe : x = a * 4294967296 + b := by omega
 have hp : x * y = a * y * 4294967296 + b * y := by rw [hxe, Nat.add_mul, Nat.mul_assoc, Nat.mul_comm 4294967296 y, ← Nat.mul_assoc]
 have hq : b * y < 4294967296 * 4294967296 := Nat.mul_lt_mul_of_lt_of_le hb2 (by omega) (by omega)
 have f1 : (x : Int) / 4294967296 = a := by omega
 have f2 : (x : Int) % 4294967296 = b := by omega
 have f3 : (x : Int) * y = ((x * y : Nat) : Int) := by simp
 rw [f2] at e2
 have g1 : (a : Int) * y = ((a * y : Nat) : Int) := by simp
 have g2 : (b : Int) * y = ((b * y : Nat) : Int) := by simp
 generalize x * y = m at *
 generalize a * y = p at *
 generalize b * y = q at *
 have e5 := and32 ((p : Int) + q / 4294967296) (by omega) (by omega)
 have e6 : ((p : Int) + q / 4294967296) % 4294967296 = (p : Int) + q / 4294967296 := by omega
 have e7 : ((p : Int) + q / 4294967296) / 4294967296 = 0 := by omega
 rw [e6] at e5
 clear e3 e6 ha hb hp hxe
 go_enter Tryz.func98, Tryz.ntmps98
 go_wp2
 go_ret2
 exact ⟨rfl, rfl⟩
set_option maxHeartbeats 400000 in
theorem div64_any (x y : Nat) (w : World) (hx : x < 18446744073709551616) (hy : y < 18446744073709551616) (hy0 : 0 < y) :
  Calls Tryz.prog 99 #[.int .u64 0, .int .u64 x, .int .u64 y] w fun e w' => e = .returned (.tuple #[.int .u64 (x / y : Nat), .int .u64 (x % y : Nat)]) ∧ ∃ n, w' = w.drewN n := by
 have h1 : ((y : Int) == 0) = false := by simp; omega
 have h2 : ¬ (y : Int) ≤ 0 := by omega
 have h3 : x / y ≤ x := Nat.div_le_self _ _
 have h4 : IntKind.u64.wrap ((x : Int) / y) = ((x / y : Nat) : Int) := by
  rw [show (x : Int) / y = ((x / y : Nat) : Int) by simp]
  generalize x / y = d at *
  exact IntWalk.u64_in _ (by omega)
 have H4 := Lib.hid h4
 clear h4
 go_enter Tryz.func99, Tryz.ntmps99
 go_wp2
 go_quiet (fail)
 go_wp2
 go_ret2
 exact ⟨by rw [← H4.out]; simp, _, rfl⟩
set_option maxHeartbeats 1000000 in
theorem choose_any (n k : Nat) (w : World) (hn : n ≤ 50) (hk : k ≤ n) : Calls Tryz.prog 68 #[.int .i64 n, .int .i64 k] w fun e w' => e = .returned (.int .i64 (ch n k : Nat)) ∧ ∃ m, w' = w.drewN m := by
  have i1 := inR_yes (n := (k : Int)) (lo := 0) (hi := n) (by omega)
  have hm := Lib.hid (ch_min hk)
  obtain ⟨t, ht⟩ : ∃ t : Nat, t = min k (n - k) := ⟨_, rfl⟩
  have htk : t ≤ k := by omega
  rw [← ht] at hm
  by_cases hmin : (n : Int) - (k : Int) < (k : Int)
  all_goals
    first | (have hmn : t = n - k := by omega) | (have hmn : t = k := by omega)
    have HT := Lib.hid hmn
    clear hmn ht
    go_enter Tryz.func68, Tryz.ntmps68
    go_wp2_with (go_at_call 34; refine (inRange_any _ _ _ _).mono ?_; rintro e w' ⟨rfl, rfl⟩)
    go_loopw [5, 6] (fun out i wr => ∃ j : Nat, j ≤ t ∧ i = .int .i64 ((j : Int) + 1) ∧ out = .int .i64 (ch n j : Nat) ∧ ∃ m, wr = w.drewN m) (fun _ i _ => n + 1 - (intOf i).toNat)
    case atStart => exact ⟨0, by omega, rfl, by rw [ch_zero]; rfl, 0, rfl⟩
    case round =>
      obtain ⟨j, hj, rfl, rfl, m, rfl⟩ := hrel
      by_cases hlt : j < t
      · have hd := Lib.hid (ch_div (n := n) (k := j) (by omega))
        have hle := ch_le2 n j
        have hp : 2 ^ n ≤ 2 ^ 50 := Nat.pow_le_pow_right (by decide) hn
        have hle2 : ch n (j + 1) ≤ 2 ^ 50 := Nat.le_trans (ch_le2 n (j + 1)) hp
        generalize ch n j = a at *
        have hm2 : a * (n - j) ≤ 2 ^ 50 * 50 := Nat.mul_le_mul (by omega) (by omega)
        have hte := HT.out
        have hlt1 : (j : Int) + 1 ≤ (n : Int) - k := by omega
        have hlt2 : (j : Int) + 1 ≤ k := by omega
        clear hte
        go_wp2_with fail
        rw [show (n : Int) - ((j : Int) + 1) + 1 = ((n - j : Nat) : Int) by omega]
        refine (mul64_any a (n - j) _ (by omega) (by omega) (by omega)).mono ?_
        rintro e w' ⟨rfl, rfl⟩
        generalize a * (n - j) = x at *
        go_wp2_with fail
        rw [show (j : Int) + 1 = ((j + 1 : Nat) : Int) by omega]
        refine (div64_any x (j + 1) _ (by omega) (by omega) (by omega)).mono ?_
        rintro e w' ⟨rfl, m2, rfl⟩
        rw [hd.out]
        generalize hy : ch n (j + 1) = y at *
        have HY := Lib.hid hy
        clear hy
        go_wp2_with fail
        go_roundw
        case rel => exact ⟨j + 1, by omega, by go_num, by rw [HY.out], m + m2, rfl⟩
        case measure => simp [intOf]; omega
      · obtain rfl : j = t := by omega
        have hte := HT.out
        have hlt1 : ¬ (j : Int) + 1 ≤ (n : Int) - k ∨ ¬ (j : Int) + 1 ≤ k := by omega
        first
          | (have hlt2 : ¬ (j : Int) + 1 ≤ (n : Int) - k := by omega
             clear hte
             go_wp2
             go_ret
             exact ⟨ret_int (by rw [hm.out]), m, rfl⟩)
          | (have hlt2 : ¬ (j : Int) + 1 ≤ k := by omega
             clear hte
             go_wp2
             go_ret
             exact ⟨ret_int (by rw [hm.out]), m, rfl⟩)
end Go.Proofs.YtcimmgpmkfbpdaaGreatDoor.Choose
namespace Go.Proofs.YtcimmgpmkfbpdaaGreatDoor.LvQ
open Go.Proofs.YtcimmgpmkfbpdaaGreatDoor.Choose Go.Proofs.YtcimmgpmkfbpdaaGreatDoor.LvM
set_option linter.unusedVariables false
theorem ch_pos : ∀ n k, k ≤ n → 0 < ch n k
 | n, 0, _ => by rw [ch_zero]; decide
 | 0, k + 1, h => by omega
 | n + 1, k + 1, h => by
  have := ch_pos n k (by omega)
  rw [ch]; omega
theorem ch_sum : ∀ n, sm (n + 1) (ch n) = 2 ^ n
 | 0 => by simp [sm, ch]
 | n + 1 => by
  have h1 := ch_sum n
  have h2 : sm (n + 2) (ch n) = 2 ^ n := by rw [sm, h1, ch_over n (n + 1) (by omega)]; rfl
  rw [sm_first, ch_zero] at h2
  have h3 : sm (n + 1) (fun i => ch (n + 1) (i + 1)) = sm (n + 1) (fun i => ch n i + ch n (i + 1)) := sm_congr fun i _ => by rw [ch]
  have h4 : sm (n + 1) (fun i => ch n i) = 2 ^ n := h1
  rw [sm_first, ch_zero, h3, sm_add, Nat.pow_succ]
  omega
def onesC (n : Nat) : Cnt := ⟨0, n + 1, ch n⟩
def runsC (n : Nat) : Cnt := ⟨1, n, fun k => 2 * ch (n - 1) k⟩
theorem onesC_ok (n : Nat) : (onesC n).ok n := ⟨Nat.zero_le _, Nat.le_refl _, fun i hi => ch_pos n i (by have : i < n + 1 := hi; omega), ch_sum n⟩
theorem runsC_ok {n : Nat} (hn : 1 ≤ n) : (runsC n).ok n := by
 obtain ⟨n, rfl⟩ : ∃ j, n = j + 1 := ⟨n - 1, by omega⟩
 refine ⟨Nat.le_refl _, Nat.le_succ _, fun i hi => ?_, ?_⟩
 ·have h : i < n + 1 := hi
  have := ch_pos n i (by omega)
  show 0 < 2 * ch (n + 1 - 1) i
  rw [Nat.add_sub_cancel]; omega
 ·show sm (n + 1) (fun k => 2 * ch (n + 1 - 1) k) = _
  rw [sm_mul, Nat.add_sub_cancel, ch_sum, Nat.pow_succ]; omega
end Go.Proofs.YtcimmgpmkfbpdaaGreatDoor.LvQ

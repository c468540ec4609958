/- The commands of a lab: a stream is given to a name. -/
import Derived.Test.YtgipnbeipfhekaaGreatDoorMgFnL14
import Derived.Test.YtgipnbeipfhekaaGreatDoorMgFnL18
import Derived.Test.YtgipnbeipfhekaaGreatDoorMgFnL10
import Derived.Test.YtgipnbeipfhekaaGreatDoorMgFnL00
set_option linter.unusedVariables false
set_option linter.unusedSimpArgs false
set_option maxRecDepth 100000
set_option maxHeartbeats 4000000
namespace Go.Proofs.YtgipnbeipfhekaaGreatDoor
namespace LcG
open Go.RowKit Base Mem MemS LabM LabV StM Dec Val Rd CarM LcA LcC
open Take (SBox set7)
theorem withC_any {L : Lb} {x : ByteArray} (r : St) (hl : L.1.length = L.2.length) (hn : L.1.length ≤ 6) (hsz : ∀ i, i < L.1.length → (L.1.getD i ByteArray.empty).size ≤ 9223372036854775807) (hsx : x.size ≤ 9223372036854775807) : WithC L x r := by
 cases hh : hasS L.1 x with
 | true => exact withC_at r hl hn hh hsz
 | false => exact fun v w h => LcW.with_ins L v x r w h hl hn hh hsz hsx
noncomputable def srcR (L : Lb) (c b : Tx) : Option St := if c = wSet then (rdO b).map toSt else findR L (tx b)
def GiveRet (L : Lb) (nm : ByteArray) (src : Option St) (v : Value) (w : World) (e : Ending) (w' : World) : Prop :=
 (src = none → e = .returned (.tuple #[v, .string ⟨#[]⟩, .bool false]) ∧ Below w.heap.size w w') ∧ (∀ r, src = some r → ∃ v', e = .returned (.tuple #[v', .string ⟨#[111, 107]⟩, .bool (labR (withR L nm r))]) ∧ LabAt w' v' (withR L nm r) ∧ Below w.heap.size w w')
theorem GiveRet.no {L : Lb} {nm : ByteArray} {v : Value} {w w' : World} {e : Ending} (h : e = .returned (.tuple #[v, .string ⟨#[]⟩, .bool false]) ∧ Below w.heap.size w w') : GiveRet L nm none v w e w' := ⟨fun _ => h, fun r h2 => by cases h2⟩
theorem GiveRet.yes {L : Lb} {nm : ByteArray} {v : Value} {r : St} {w w' : World} {e : Ending} (h : ∃ v', e = .returned (.tuple #[v', .string ⟨#[111, 107]⟩, .bool (labR (withR L nm r))]) ∧ LabAt w' v' (withR L nm r) ∧ Below w.heap.size w w') : GiveRet L nm (some r) v w e w' := ⟨fun h2 => (by cases h2), fun r2 h2 => by injection h2 with h2; subst h2; exact h⟩
theorem give_any {L : Lb} {c0 b : Tx} {nm : ByteArray} (hc : c0 = wSet ∨ c0 = wCopy) (hl : L.1.length = L.2.length) (hn : L.1.length ≤ 6) (hsz : b.length ≤ 1048576) (hW : ∀ r, WithC L nm r) (v : Value) (w : World) (h : LabAt w v L) (ht : Tabs w) :
  Calls Tryz.prog 87 #[v, .string (tx c0), .string nm, .string (tx b)] w (GiveRet L nm (srcR L c0 b) v w) := by
 have hv := h
 obtain ⟨A, c, A', c', rfl, hx, hy, _⟩ := h
 obtain ⟨W2, hW2⟩ : ∃ W2, W2 = (w.alloc (.cells #[.slice A L.1.length c, .slice A' L.2.length c'] 53)).alloc (.cells #[.slice none 0 0, .slice none 0 0] 53) := ⟨_, rfl⟩
 have b2 : Below w.heap.size w W2 := by rw [hW2]; exact ((Below.refl _ _).alloc (Nat.le_refl _) _).alloc (by simp) _
 have KL : Hid (Blk.Blk W2 w.heap.size 53 #[.slice A L.1.length c, .slice A' L.2.length c']) := J (by rw [hW2]; exact (Blk.Blk.new w _ _).alloc _)
 have KR : Hid (Blk.Blk W2 (w.heap.size + 1) 53 #[.slice none 0 0, .slice none 0 0]) := J (by rw [hW2]; exact Blk.Blk.newAt _ _ (by simp))
 have hv2 := hv.below b2
 have HF := J (find_ex L (.agg #[.slice A L.1.length c, .slice A' L.2.length c']) (tx b) W2 hv2 hl hn)
 have HV := J hv2
 have HB := J b2
 have HW := J hW2
 have HRd := J (fun W (hb : Below w.heap.size w W) => implRead_any (tx b) (by rw [size_tx]; exact hsz) W (ht.on hb).1 (ht.on hb).2.1 (ht.on hb).2.2)
 rw [list_tx] at HRd
 have HWC := J hW
 clear hW hv hx hy hW2 b2 hv2 ht hl hsz
 rcases hc with rfl | rfl
 ·cases hr : rdO b with
  | none =>
   have hs : srcR L wSet b = none := by unfold srcR; rw [if_pos rfl, hr]; rfl
   rw [hs, show tx wSet = (⟨#[115, 101, 116]⟩ : ByteArray) from rfl]
   have HRR := J hr
   generalize (findR L (tx b)).isSome = bb at HF
   clear hs hr
   generalize tx b = wd at *
   go_enter Tryz.func87, Tryz.ntmps87
   go_wp2_with fail
   rw [← HW.out]
   refine HF.out.mono ?_
   rintro e w1 ⟨r0, rfl, _, b1⟩
   have KL1 := J (KL.out.belowS b1)
   have KR1 := J (KR.out.belowS b1)
   have HV1 := J (HV.out.below b1)
   have HB1 := J (Base.Below.nextA HB.out b1)
   clear b1 KL KR HV HB HF HW
   obtain ⟨K, W, T, m, f, a, s⟩ := r0
   unfold St.val
   dsimp only
   obtain ⟨W3, hW3⟩ : ∃ W3, W3 = w1.alloc (.cells #[.int .i64 K, .int .i64 W, .int .i64 T, .int .i64 m, .int .i64 f, .int .i64 a, .int .i64 s] 29) := ⟨_, rfl⟩
   have b3 : Below w1.heap.size w1 W3 := by rw [hW3]; exact (Below.refl _ _).alloc (Nat.le_refl _) _
   have KS : SBox W3 w1.heap.size K W T m f a s := by rw [hW3]; exact SBox.new _ _ _ _ _ _ _ _
   have hz1 := HB1.out.size
   have hk1 := KR1.out.lt
   go_wp2_with fail
   rw [← hW3]
   refine (HRd.out W3 (Base.Below.nextA HB1.out b3)).mono ?_
   intro e w4 hrd
   have hr2 := hrd.2.1 HRR.out
   subst hr2
   have b4 := hrd.2.2
   have b34 := Base.Below.nextA b3 b4
   have KL4 := KL1.out.belowS b34
   have KR4 := KR1.out.belowS b34
   have KS4 := KS.below b4 KS.lt
   have HB4 := J (Base.Below.nextA HB1.out b34)
   have HV4 := HV1.out.below b34
   have S8 := KS4.set7 0 0 0 0 0 0 0
   have x0 := (KS4).c0; have x1 := (KS4).c1; have x2 := (KS4).c2; have x3 := (KS4).c3; have x4 := (KS4).c4; have x5 := (KS4).c5; have x6 := (KS4).c6
   have z0 := (KS4).frz 0; have z1 := (KS4).frz 1; have z2 := (KS4).frz 2; have z3 := (KS4).frz 3; have z4 := (KS4).frz 4; have z5 := (KS4).frz 5; have z6 := (KS4).frz 6
   obtain ⟨W5, hW5⟩ : ∃ W5, W5 = set7 w4 w1.heap.size 0 0 0 0 0 0 0 := ⟨_, rfl⟩
   rw [← hW5] at S8
   have gs : w4.grownBy W5 (some w1.heap.size) := by rw [hW5]; exact Take.grown_set7 _ _ _ _ _ _ _ _ _
   have KL5 := J (KL4.kept gs (fun e => by injection e with e; omega))
   have KR5 := J (KR4.kept gs (fun e => by injection e with e; omega))
   have HB5 := J (HB4.out.trans (grown_below (B := w.heap.size) gs (fun q e => by injection e with e; omega) (by have := HB4.out.size; omega)))
   have HV5 := J (HV1.out.below (b34.trans (grown_below (B := w1.heap.size) gs (fun q e => by injection e with e; omega) (by have := b34.size; omega))))
   have HS8 := J S8
   have HW5 := J hW5
   unfold set7 at HW5
   clear hrd b4 b34 b3 KL4 KR4 KS4 HV4 S8 gs hW5 KS hW3 KL1 KR1 HV1 HB1 HRd HRR HB4
   have e0 := KL5.out.at 0 (v := .slice A L.1.length c) rfl
   have e1 := KL5.out.at 1 (v := .slice A' L.2.length c') rfl
   have r0 := KR5.out.at 0 (v := .slice none 0 0) rfl
   have r1 := KR5.out.at 1 (v := .slice none 0 0) rfl
   have f0 := KR5.out.frz 0
   have f1 := KR5.out.frz 1
   have KK := (KR5.out.setTo 0 (.slice A L.1.length c) rfl).setTo 1 (.slice A' L.2.length c') rfl
   have k0 := KK.at 0 (v := .slice A L.1.length c) rfl
   have k1 := KK.at 1 (v := .slice A' L.2.length c') rfl
   have HFIN := J ((HB5.out.setCell (p := ⟨w.heap.size + 1, 0, none⟩) (Nat.le_succ _) (.slice A L.1.length c)).setCell (p := ⟨w.heap.size + 1, 1, none⟩) (Nat.le_succ _) (.slice A' L.2.length c'))
   rw [HW5.out] at e0 e1 r0 r1 f0 f1 k0 k1 HFIN
   clear KK HW5 KL5 KR5 HB5 HS8 HWC HV5
   go_wp2
   refine bodyPost_ret (v := .tuple #[.agg #[.slice A L.1.length c, .slice A' L.2.length c'], .string ⟨#[]⟩, .bool false]) (by simp [results, Tryz.results87, go_sem, k0, k1]) rfl ?_
   exact .no ⟨rfl, HFIN.out⟩
  | some q7 =>
   obtain ⟨q, hq⟩ : ∃ q, q = toSt q7 := ⟨_, rfl⟩
   have hs : srcR L wSet b = some q := by unfold srcR; rw [if_pos rfl, hr]; rw [hq]; rfl
   rw [hs, show tx wSet = (⟨#[115, 101, 116]⟩ : ByteArray) from rfl]
   have HRR := J hr
   generalize (findR L (tx b)).isSome = bb at HF
   clear hs hr
   generalize tx b = wd at *
   go_enter Tryz.func87, Tryz.ntmps87
   go_wp2_with fail
   rw [← HW.out]
   refine HF.out.mono ?_
   rintro e w1 ⟨r0, rfl, _, b1⟩
   have KL1 := J (KL.out.belowS b1)
   have KR1 := J (KR.out.belowS b1)
   have HV1 := J (HV.out.below b1)
   have HB1 := J (Base.Below.nextA HB.out b1)
   clear b1 KL KR HV HB HF HW
   obtain ⟨K, W, T, m, f, a, s⟩ := r0
   unfold St.val
   dsimp only
   obtain ⟨W3, hW3⟩ : ∃ W3, W3 = w1.alloc (.cells #[.int .i64 K, .int .i64 W, .int .i64 T, .int .i64 m, .int .i64 f, .int .i64 a, .int .i64 s] 29) := ⟨_, rfl⟩
   have b3 : Below w1.heap.size w1 W3 := by rw [hW3]; exact (Below.refl _ _).alloc (Nat.le_refl _) _
   have KS : SBox W3 w1.heap.size K W T m f a s := by rw [hW3]; exact SBox.new _ _ _ _ _ _ _ _
   have hz1 := HB1.out.size
   have hk1 := KR1.out.lt
   go_wp2_with fail
   rw [← hW3]
   refine (HRd.out W3 (Base.Below.nextA HB1.out b3)).mono ?_
   intro e w4 hrd
   obtain ⟨hr1, hr2⟩ := hrd.1 q.K q.W q.T q.m q.f q.a q.s (by rw [HRR.out, hq]; rfl)
   subst hr2
   clear hr1
   have b4 := hrd.2.2
   have b34 := Base.Below.nextA b3 b4
   have KL4 := KL1.out.belowS b34
   have KR4 := KR1.out.belowS b34
   have KS4 := KS.below b4 KS.lt
   have HB4 := J (Base.Below.nextA HB1.out b34)
   have HV4 := HV1.out.below b34
   have S8 := KS4.set7 q.K q.W q.T q.m q.f q.a q.s
   have x0 := (KS4).c0; have x1 := (KS4).c1; have x2 := (KS4).c2; have x3 := (KS4).c3; have x4 := (KS4).c4; have x5 := (KS4).c5; have x6 := (KS4).c6
   have z0 := (KS4).frz 0; have z1 := (KS4).frz 1; have z2 := (KS4).frz 2; have z3 := (KS4).frz 3; have z4 := (KS4).frz 4; have z5 := (KS4).frz 5; have z6 := (KS4).frz 6
   obtain ⟨W5, hW5⟩ : ∃ W5, W5 = set7 w4 w1.heap.size q.K q.W q.T q.m q.f q.a q.s := ⟨_, rfl⟩
   rw [← hW5] at S8
   have gs : w4.grownBy W5 (some w1.heap.size) := by rw [hW5]; exact Take.grown_set7 _ _ _ _ _ _ _ _ _
   have KL5 := J (KL4.kept gs (fun e => by injection e with e; omega))
   have KR5 := J (KR4.kept gs (fun e => by injection e with e; omega))
   have HB5 := J (HB4.out.trans (grown_below (B := w.heap.size) gs (fun q e => by injection e with e; omega) (by have := HB4.out.size; omega)))
   have HV5 := J (HV1.out.below (b34.trans (grown_below (B := w1.heap.size) gs (fun q e => by injection e with e; omega) (by have := b34.size; omega))))
   have HS8 := J S8
   have HW5 := J hW5
   unfold set7 at HW5
   clear hrd b4 b34 b3 KL4 KR4 KS4 HV4 S8 gs hW5 KS hW3 KL1 KR1 HV1 HB1 HRd HRR HB4
   have HC := J (HWC.out q (.agg #[.slice A L.1.length c, .slice A' L.2.length c']) W5 HV5.out)
   have e0 := KL5.out.at 0 (v := .slice A L.1.length c) rfl
   have e1 := KL5.out.at 1 (v := .slice A' L.2.length c') rfl
   have hs8 := HS8.out
   have y0 := (hs8).c0; have y1 := (hs8).c1; have y2 := (hs8).c2; have y3 := (hs8).c3; have y4 := (hs8).c4; have y5 := (hs8).c5; have y6 := (hs8).c6
   clear hq
   unfold St.val at HC
   generalize q.K = K' at *
   generalize q.W = W' at *
   generalize q.T = T' at *
   generalize q.m = m' at *
   generalize q.f = f' at *
   generalize q.a = a' at *
   generalize q.s = s' at *
   rw [HW5.out] at e0 e1 y0 y1 y2 y3 y4 y5 y6
   clear hs8 HWC HV5
   go_wp2_with fail
   rw [← HW5.out]
   refine HC.out.mono ?_
   rintro e w6 ⟨v6, rfl, hv6, b6⟩
   have hv7 := hv6
   obtain ⟨A7, c7, A8, c8, rfl, _, _⟩ := hv6
   have KR6 := KR5.out.belowS b6
   have HB6 := Base.Below.nextA HB5.out b6
   have hk6 := KR6.lt
   have r0 := KR6.at 0 (v := .slice none 0 0) rfl
   have r1 := KR6.at 1 (v := .slice none 0 0) rfl
   have f0 := KR6.frz 0
   have f1 := KR6.frz 1
   obtain ⟨ok, hok⟩ : ∃ ok, ok = labR (withR L nm q) := ⟨_, rfl⟩
   have HOK := J hok
   have KK := ((KR6.setTo 0 (.slice A7 (withR L nm q).1.length c7) rfl).setTo 1 (.slice A8 (withR L nm q).2.length c8) rfl).alloc (.cells #[.slice A7 (withR L nm q).1.length c7, .slice A8 (withR L nm q).2.length c8] 53)
   have k0 := KK.at 0 (v := .slice A7 (withR L nm q).1.length c7) rfl
   have k1 := KK.at 1 (v := .slice A8 (withR L nm q).2.length c8) rfl
   have hvf := (ownPut hv7 (b := w.heap.size + 1) (by have := KR5.out.lt; omega) (.slice A7 (withR L nm q).1.length c7) (.slice A8 (withR L nm q).2.length c8)).at.below ((Below.refl _ _).alloc (Nat.le_refl _) (.cells #[.slice A7 (withR L nm q).1.length c7, .slice A8 (withR L nm q).2.length c8] 53))
   have HFIN := J (And.intro hvf (((HB6.setCell (p := ⟨w.heap.size + 1, 0, none⟩) (Nat.le_succ _) (.slice A7 (withR L nm q).1.length c7)).setCell (p := ⟨w.heap.size + 1, 1, none⟩) (Nat.le_succ _) (.slice A8 (withR L nm q).2.length c8)).alloc (by have := HB6.size; simp; omega) (.cells #[.slice A7 (withR L nm q).1.length c7, .slice A8 (withR L nm q).2.length c8] 53)))
   rw [← hok]
   clear hv7 KR6 HB6 KK hvf b6 HC HW5 KL5 KR5 HB5 HS8 e0 e1 y0 y1 y2 y3 y4 y5 y6 x0 x1 x2 x3 x4 x5 x6 z0 z1 z2 z3 z4 z5 z6 hok
   go_wp2
   refine bodyPost_ret (v := .tuple #[.agg #[.slice A7 (withR L nm q).1.length c7, .slice A8 (withR L nm q).2.length c8], .string ⟨#[111, 107]⟩, .bool ok]) (by simp [results, Tryz.results87, go_sem, k0, k1]) rfl ?_
   exact .yes ⟨_, by rw [HOK.out], HFIN.out.1, HFIN.out.2⟩
 ·cases hr : findR L (tx b) with
  | none =>
   have hs : srcR L wCopy b = none := by unfold srcR; rw [if_neg (by decide), hr]
   rw [hs, show tx wCopy = (⟨#[99, 111, 112, 121]⟩ : ByteArray) from rfl]
   rw [hr] at HF
   dsimp only [Option.isSome] at HF
   clear HRd
   clear hs hr
   generalize tx b = wd at *
   go_enter Tryz.func87, Tryz.ntmps87
   go_wp2_with fail
   rw [← HW.out]
   refine HF.out.mono ?_
   rintro e w1 ⟨r0, rfl, _, b1⟩
   have KL1 := J (KL.out.belowS b1)
   have KR1 := J (KR.out.belowS b1)
   have HV1 := J (HV.out.below b1)
   have HB1 := J (Base.Below.nextA HB.out b1)
   clear b1 KL KR HV HB HF HW
   obtain ⟨K, W, T, m, f, a, s⟩ := r0
   unfold St.val
   dsimp only
   have hk1 := KR1.out.lt
   have b3 : Below w1.heap.size w1 (w1.alloc (.cells #[.int .i64 K, .int .i64 W, .int .i64 T, .int .i64 m, .int .i64 f, .int .i64 a, .int .i64 s] 29)) := (Below.refl _ _).alloc (Nat.le_refl _) _
   have e0 := (KL1.out.belowS b3).at 0 (v := .slice A L.1.length c) rfl
   have e1 := (KL1.out.belowS b3).at 1 (v := .slice A' L.2.length c') rfl
   have r0 := (KR1.out.belowS b3).at 0 (v := .slice none 0 0) rfl
   have r1 := (KR1.out.belowS b3).at 1 (v := .slice none 0 0) rfl
   have f0 := (KR1.out.belowS b3).frz 0
   have f1 := (KR1.out.belowS b3).frz 1
   have g0 := KR1.out.at 0 (v := .slice none 0 0) rfl
   have g1 := KR1.out.at 1 (v := .slice none 0 0) rfl
   have h0 := KR1.out.frz 0
   have h1 := KR1.out.frz 1
   have KK := ((KR1.out.setTo 0 (.slice A L.1.length c) rfl).setTo 1 (.slice A' L.2.length c') rfl).alloc (.cells #[.int .i64 K, .int .i64 W, .int .i64 T, .int .i64 m, .int .i64 f, .int .i64 a, .int .i64 s] 29)
   have k0 := KK.at 0 (v := .slice A L.1.length c) rfl
   have k1 := KK.at 1 (v := .slice A' L.2.length c') rfl
   have HFIN := J (((HB1.out.setCell (p := ⟨w.heap.size + 1, 0, none⟩) (Nat.le_succ _) (.slice A L.1.length c)).setCell (p := ⟨w.heap.size + 1, 1, none⟩) (Nat.le_succ _) (.slice A' L.2.length c')).alloc (by have := HB1.out.size; simp; omega) (.cells #[.int .i64 K, .int .i64 W, .int .i64 T, .int .i64 m, .int .i64 f, .int .i64 a, .int .i64 s] 29))
   clear KK KL1 KR1 HB1 HWC HV1 b3
   go_wp2
   refine bodyPost_ret (v := .tuple #[.agg #[.slice A L.1.length c, .slice A' L.2.length c'], .string ⟨#[]⟩, .bool false]) (by simp [results, Tryz.results87, go_sem, k0, k1]) rfl ?_
   exact .no ⟨rfl, HFIN.out⟩
  | some q =>
   have hs : srcR L wCopy b = some q := by unfold srcR; rw [if_neg (by decide), hr]
   rw [hs, show tx wCopy = (⟨#[99, 111, 112, 121]⟩ : ByteArray) from rfl]
   rw [hr] at HF
   dsimp only [Option.isSome] at HF
   clear HRd
   clear hs hr
   generalize tx b = wd at *
   go_enter Tryz.func87, Tryz.ntmps87
   go_wp2_with fail
   rw [← HW.out]
   refine HF.out.mono ?_
   rintro e w1 ⟨r0, rfl, hr0, b1⟩
   obtain rfl := hr0 _ rfl
   have KL1 := J (KL.out.belowS b1)
   have KR1 := J (KR.out.belowS b1)
   have HV1 := J (HV.out.below b1)
   have HB1 := J (Base.Below.nextA HB.out b1)
   clear b1 KL KR HV HB HF HW
   obtain ⟨K, W, T, m, f, a, s⟩ := r0
   unfold St.val
   dsimp only
   obtain ⟨W3, hW3⟩ : ∃ W3, W3 = w1.alloc (.cells #[.int .i64 K, .int .i64 W, .int .i64 T, .int .i64 m, .int .i64 f, .int .i64 a, .int .i64 s] 29) := ⟨_, rfl⟩
   have b3 : Below w1.heap.size w1 W3 := by rw [hW3]; exact (Below.refl _ _).alloc (Nat.le_refl _) _
   have KS : SBox W3 w1.heap.size K W T m f a s := by rw [hW3]; exact SBox.new _ _ _ _ _ _ _ _
   have hz1 := HB1.out.size
   have hk1 := KR1.out.lt
   have KL5 := J (KL1.out.belowS b3)
   have KR5 := J (KR1.out.belowS b3)
   have HB5 := J (Base.Below.nextA HB1.out b3)
   have HV5 := J (HV1.out.below b3)
   have HS8 := J KS
   obtain ⟨W5, hW5⟩ : ∃ W5, W5 = W3 := ⟨_, rfl⟩
   have HW5 := J (hW5.trans hW3)
   rw [← hW5] at KL5 KR5 HB5 HV5 HS8
   have g0 := KR1.out.at 0 (v := .slice none 0 0) rfl
   have g1 := KR1.out.at 1 (v := .slice none 0 0) rfl
   have h0 := KR1.out.frz 0
   have h1 := KR1.out.frz 1
   clear b3 KS hW3 hW5 KL1 KR1 HV1 HB1
   have HC := J (HWC.out ⟨K, W, T, m, f, a, s⟩ (.agg #[.slice A L.1.length c, .slice A' L.2.length c']) W5 HV5.out)
   have e0 := KL5.out.at 0 (v := .slice A L.1.length c) rfl
   have e1 := KL5.out.at 1 (v := .slice A' L.2.length c') rfl
   have hs8 := HS8.out
   have y0 := (hs8).c0; have y1 := (hs8).c1; have y2 := (hs8).c2; have y3 := (hs8).c3; have y4 := (hs8).c4; have y5 := (hs8).c5; have y6 := (hs8).c6
   obtain ⟨q, hq⟩ : ∃ q, q = (⟨K, W, T, m, f, a, s⟩ : St) := ⟨_, rfl⟩
   unfold St.val at HC
   dsimp only at HC
   rw [← hq] at HC
   have HQ := J hq
   clear hq
   rw [HW5.out] at e0 e1 y0 y1 y2 y3 y4 y5 y6
   clear hs8 HWC HV5
   go_wp2_with fail
   rw [← HW5.out]
   refine HC.out.mono ?_
   rintro e w6 ⟨v6, rfl, hv6, b6⟩
   have hv7 := hv6
   obtain ⟨A7, c7, A8, c8, rfl, _, _⟩ := hv6
   have KR6 := KR5.out.belowS b6
   have HB6 := Base.Below.nextA HB5.out b6
   have hk6 := KR6.lt
   have r0 := KR6.at 0 (v := .slice none 0 0) rfl
   have r1 := KR6.at 1 (v := .slice none 0 0) rfl
   have f0 := KR6.frz 0
   have f1 := KR6.frz 1
   obtain ⟨ok, hok⟩ : ∃ ok, ok = labR (withR L nm q) := ⟨_, rfl⟩
   have HOK := J hok
   have KK := ((KR6.setTo 0 (.slice A7 (withR L nm q).1.length c7) rfl).setTo 1 (.slice A8 (withR L nm q).2.length c8) rfl).alloc (.cells #[.slice A7 (withR L nm q).1.length c7, .slice A8 (withR L nm q).2.length c8] 53)
   have k0 := KK.at 0 (v := .slice A7 (withR L nm q).1.length c7) rfl
   have k1 := KK.at 1 (v := .slice A8 (withR L nm q).2.length c8) rfl
   have hvf := (ownPut hv7 (b := w.heap.size + 1) (by have := KR5.out.lt; omega) (.slice A7 (withR L nm q).1.length c7) (.slice A8 (withR L nm q).2.length c8)).at.below ((Below.refl _ _).alloc (Nat.le_refl _) (.cells #[.slice A7 (withR L nm q).1.length c7, .slice A8 (withR L nm q).2.length c8] 53))
   have HFIN := J (And.intro hvf (((HB6.setCell (p := ⟨w.heap.size + 1, 0, none⟩) (Nat.le_succ _) (.slice A7 (withR L nm q).1.length c7)).setCell (p := ⟨w.heap.size + 1, 1, none⟩) (Nat.le_succ _) (.slice A8 (withR L nm q).2.length c8)).alloc (by have := HB6.size; simp; omega) (.cells #[.slice A7 (withR L nm q).1.length c7, .slice A8 (withR L nm q).2.length c8] 53)))
   clear hv7 KR6 HB6 KK hvf b6 HC HW5 KL5 KR5 HB5 HS8 e0 e1 y0 y1 y2 y3 y4 y5 y6  hok
   go_wp2
   refine bodyPost_ret (v := .tuple #[.agg #[.slice A7 (withR L nm q).1.length c7, .slice A8 (withR L nm q).2.length c8], .string ⟨#[111, 107]⟩, .bool (labR (withR L nm q))]) (by simp [results, Tryz.results87, go_sem, k0, k1]) rfl ?_
   obtain ⟨hf1, hf2⟩ := HFIN.out
   have hok := HOK.out
   have hq := HQ.out
   clear HQ HOK HFIN
   subst hq
   exact .yes ⟨_, rfl, hf1, hf2⟩
end LcG
namespace LcM
open Go.RowKit Base Mem MemS LabM LabV StM CarM LcA
theorem spl_del {l xs zs : List Value} {N a s K : Nat} (hx : l.take N = xs) (hN : N = K + s) (ha : a ≤ K) (hl : N ≤ l.length) (hz : zs.length = s) : (spl (spl l a (xs.drop (a + s))) K zs).take K = xs.take a ++ xs.drop (a + s) := by
 have hxl : xs.length = N := by rw [← hx, List.length_take]; omega
 have e1 : l.take a = xs.take a := by rw [← hx, List.take_take, Nat.min_eq_left (by omega)]
 have hdl : (xs.drop (a + s)).length = K - a := by rw [List.length_drop, hxl]; omega
 have hta : (xs.take a).length = a := by rw [List.length_take]; omega
 obtain ⟨D, hD⟩ : ∃ D, D = xs.drop (a + s) := ⟨_, rfl⟩
 rw [← hD] at hdl ⊢
 have e2 : (spl l a D).take K = xs.take a ++ D := by
  unfold spl
  rw [e1, List.take_append_of_le_length (by simp; omega), List.take_of_length_le (by simp; omega)]
 rw [spl, e2, List.append_assoc, List.take_append_of_le_length (by simp; omega), List.take_of_length_le (by simp; omega)]
theorem own_del {w : World} {B g k c p sz : Nat} {e : TypeId} {xs zs : List Value} (hO : w.ownsRow B e sz (.slice (some ⟨g, 0, none⟩) (k + 1) c) (k + 1) xs) (hp : p ≤ k) (hz : zs.length = sz) :
  ((w.drew.setCells g (p * sz) (xs.drop (p * sz + sz))).setCells g (k * sz) zs).ownsRow B e sz (.slice (some ⟨g, 0, none⟩) k c) k (xs.take (p * sz) ++ xs.drop (p * sz + sz)) ∧
  w.grownBy ((w.drew.setCells g (p * sz) (xs.drop (p * sz + sz))).setCells g (k * sz) zs) (some g) := by
 have hlx := hO.1
 rcases hO.2 with ⟨h', _⟩ | ⟨g', cap, cur, h', hb, hg, hnc, hcm, hcs, htake⟩
 ·simp at h'
 ·simp only [Value.slice.injEq, Option.some.injEq, Addr.mk.injEq, and_true, true_and] at h'
  obtain ⟨rfl, rfl⟩ := h'
  have hpn : p * sz ≤ k * sz := Nat.mul_le_mul_right _ hp
  have hk1 : (k + 1) * sz = k * sz + sz := Nat.succ_mul _ _
  have hcn : (k + 1) * sz ≤ c * sz := Nat.mul_le_mul_right _ hnc
  have hdl : (xs.drop (p * sz + sz)).length = k * sz - p * sz := by rw [List.length_drop, hlx, hk1]; omega
  have h1 := heap_setCells g e (xs.drop (p * sz + sz)) (p * sz) w.drew cur hg (by omega)
  have hl1 : (spl cur.toList (p * sz) (xs.drop (p * sz + sz))).length = c * sz := by rw [spl_len (by simp only [Array.length_toList]; omega)]; simpa using hcs
  have h2 := heap_setCells g e zs (k * sz) _ _ h1 (by simp only [List.size_toArray]; rw [hl1]; omega)
  refine ⟨⟨by rw [List.length_append, List.length_take, hdl]; omega, .inr ⟨g, c, _, rfl, hb, h2, by omega, hcm, by simp; rw [spl_len (by rw [hl1]; omega), hl1], ?_⟩⟩, ?_⟩
  ·exact spl_del htake hk1 hpn (by simp only [Array.length_toList]; omega) hz
  ·exact grown_trans (grown_trans (show w.grownBy w.drew (some g) from ⟨rfl, rfl, rfl, Nat.le_refl _, fun _ _ _ => rfl⟩) (grown_setCells g _ _ w.drew)) (grown_setCells g _ _ _)
theorem step_append_runI {P : Program} {ops : Array Oper} {o : Oper} {a : Act} {w : World} {K : Act → World → Prop} {Q : Exit → Act → World → Prop} {E : Prop}
  (hg : o.guard = none) (d x : Operand) (dT sT : TypeId) (hop : o.op = Op.call { callee := Callee.builtin Builtin.append, args := #[d, x], argTypes := #[dT, sT] })
  (v u : Value) (hd : a.eval d = v) (hx : a.eval x = u) {v' : Value} {w' : World} (hr : (Builtin.append_ #[dT, sT] o.type #[v, u]).run P w = .ok v' w') (hK : K (a.put o.dst v') w') :
  if Region.wanted o (yielded ops a.tmps) = true then Oper.wp P o a w K Q else E := by
 have hw : Region.wanted o (yielded ops a.tmps) = true := by simp [Region.wanted, hg]
 rw [if_pos hw]
 unfold Oper.wp
 simp [execOp, hop, resolve, invoke, builtin, hd, hx, hr, Result.andThen]
 exact hK
theorem clrT (W : World) (ty : TypeId) (g o cc : Nat) (hc : ∀ j, j < 1 → (W.cell? ⟨g, o + j, none⟩).isSome = true) (hf : ∀ j, j < 1 → W.frozen? ⟨g, o + j, none⟩ = false) : (Builtin.clear_ #[50] ty #[.slice (some ⟨g, o, none⟩) 1 cc]).run Tryz.prog W = .ok (.tuple #[]) (W.setCells g o [.string ByteArray.empty]) := by
 have hst := run_storeCells_cells (P := Tryz.prog) g o [.string ByteArray.empty] 0 W (fun j hj => by rw [Nat.add_zero]; exact hc j hj) (fun j hj => by rw [Nat.add_zero]; exact hf j hj) (by simp [Value.oneCell'])
 simp only [Nat.add_zero] at hst
 have hv : (zeroValue 9).run Tryz.prog W = .ok (.string ByteArray.empty) W := by
  obtain ⟨i0, hi, hz0, hz1, hz2⟩ := info_parts infoT
  simp [zeroValue, typeInfo, hi, hz0]
 have hz : (Builtin.zeroCells (Value.cells (.string ByteArray.empty)) 1).toList = [.string ByteArray.empty] := by simp [Builtin.zeroCells, Value.cells, List.range, List.range.loop]
 simp [Builtin.clear_, run_underlying Tryz.underlying50, hv]
 rw [hz, hst]
 rfl
theorem delT (g k c B p : Nat) (xs : List Value) (w : World) (hO : w.ownsRow B 9 1 (.slice (some ⟨g, 0, none⟩) (k + 1) c) (k + 1) xs) (hB : B ≤ w.heap.size) (hn : k ≤ 1000) (hp : p ≤ k) (h1 : ∀ u ∈ xs, u.oneCell' = true) :
  Calls Tryz.prog 187 #[.slice (some ⟨g, 0, none⟩) (k + 1) c, .int .i64 (p : Int), .int .i64 ((p : Int) + 1)] w fun e w' => e = .returned (.slice (some ⟨g, 0, none⟩) k c) ∧ w'.ownsRow B 9 1 (.slice (some ⟨g, 0, none⟩) k c) k (xs.take (p) ++ xs.drop (p + 1)) ∧ w.grownBy w' (some g) := by
 obtain ⟨k1, k2, k3, k4, k5⟩ := own_cells hO
 have hxl : xs.length = (k + 1) * 1 := hO.1
 have hm5 : maxLen = 9223372036854775807 := by unfold maxLen; omega
 have hdl : (xs.drop (p + 1)).length = (k - p) * 1 := by rw [List.length_drop, hxl]; omega
 obtain ⟨i0, hi0, hz0, hzs, hzb⟩ := info_parts infoT
 have hap : ∀ ty sc, (Builtin.append_ #[50, 50] ty #[.slice (some ⟨g, 0, none⟩) p c, .slice (some ⟨g, (p + 1), none⟩) (k - p) sc]).run Tryz.prog w.drew = .ok (.slice (some ⟨g, 0, none⟩) k c) (w.drew.setCells g (p) (xs.drop (p + 1))) := fun ty sc => by
  have h := run_append_room_cells (P := Tryz.prog) w.drew 50 ty 9 i0 Tryz.underlying50 hi0 g 0 p c ⟨g, (p + 1), none⟩ (k - p) sc (xs.drop (p + 1)) (by rw [hzs]; exact hdl)
   (fun j v hj => by rw [Addr.add_lit]; have := k1 (p + 1 + j) v (by rwa [List.getElem?_drop] at hj); rw [show (p + 1) + j = p + 1 + j by omega]; exact this) (fun v hv => h1 v (List.mem_of_mem_drop hv)) (by omega) (fun j hj => by rw [hzs]; exact k2 _ (by omega)) (fun j hj => k3 _)
  rw [hzs, Nat.zero_add, show p + (k - p) = k by omega] at h
  rw [Nat.mul_one] at h
  exact h
 obtain ⟨W1, hW1⟩ : ∃ W1, W1 = w.drew.setCells g (p) (xs.drop (p + 1)) := ⟨_, rfl⟩
 have hk2 : ∀ j, j < c * 1 → (w.cell? ⟨g, j, none⟩).isSome = true := k2
 have hcl : ∀ ty cc, (Builtin.clear_ #[50] ty #[.slice (some ⟨g, k, none⟩) 1 cc]).run Tryz.prog W1 = .ok (.tuple #[]) (W1.setCells g (k) [.string ByteArray.empty]) := fun ty cc => by
  skip
  exact clrT W1 ty g (k) cc (fun j hj => by rw [hW1]; exact Go.Proofs.isSome_setCells g (xs.drop (p + 1)) (p) w.drew (fun t ht => hk2 _ (by omega)) _ (hk2 _ (by omega))) (fun j hj => by rw [hW1, World.frozen?_setCells]; exact k3 _)
 have hd := own_del (zs := [.string ByteArray.empty]) hO hp rfl
 simp only [Nat.mul_one] at hd k2
 rw [← hW1] at hap hd
 have hap0 : k = p → ∀ ty a sc, (Builtin.append_ #[50, 50] ty #[.slice (some ⟨g, 0, none⟩) p c, .slice (some a) 0 sc]).run Tryz.prog w.drew = .ok (.slice (some ⟨g, 0, none⟩) k c) W1 := fun hkp ty a sc => by
  have h := run_append_room_cells (P := Tryz.prog) w.drew 50 ty 9 i0 Tryz.underlying50 hi0 g 0 p c a 0 sc [] (by simp) (fun j v hj => by simp at hj) (fun v hv => by simp at hv) (by omega) (fun j hj => by simp at hj) (fun j hj => by simp at hj)
  rw [h, hW1, List.drop_of_length_le (by omega), hkp]
  rfl
 have HD := J hd
 have mixed : Tryz.prog.follows .mixedOrders = true := by kernel_rfl
 have hw1 : IntKind.i64.wrap ((p : Int) + 1) = (p : Int) + 1 := by rw [IntKind.wrap_i64]; omega
 have hb1 : (0 : Int) ≤ (p : Int) + 1 := by omega
 have hk0 : (k : Int) ≤ (k : Int) + 1 := by omega
 have hb2 : ¬ (p : Int) = (p : Int) + 1 := by omega
 have hb3 : (p : Int) + 1 ≤ (k : Int) + 1 := by omega
 have htn : ((p : Int) + 1).toNat = p + 1 := by omega
 have hpk : p ≤ k := hp
 have hpk1 : p + 1 ≤ k + 1 := by omega
 have hpc : p ≤ c := by omega
 have hkc : k ≤ c := by omega
 have hkc1 : k + 1 ≤ c := k4
 have hc1 : ¬ c = k := by omega
 have hc2 : ¬ c = p := by omega
 have hc63 : c ≤ 9223372036854775807 := by omega
 clear k1 k2 k3 hk2 hxl hdl h1 hi0 hz0 hzs hzb
 by_cases hcp : c = p + 1
 ·have hkp : k = p := by omega
  subst hkp
  subst hcp
  have hap0 := hap0
  clear hO hd hW1
  go_enter Tryz.func187, Tryz.ntmps187
  go_wp2
  go_region_law_o (refine step_append_runI rfl _ _ 50 50 rfl (.slice (some ⟨g, 0, none⟩) k (k + 1)) (.slice (some ⟨g, 0, none⟩) 0 0) (by simp [Act.eval, Act.put]) (by simp [Act.eval, Act.put]) (hap0 trivial 50 ⟨g, 0, none⟩ 0) ?_)
  go_wp2
  go_ret
  exact ⟨rfl, HD.out.1, HD.out.2⟩
 ·have HCP := J hcp
  clear hO hW1 hd hap0
  go_enter Tryz.func187, Tryz.ntmps187
  go_wp2
  go_region_law_o (refine step_append_runI rfl _ _ 50 50 rfl (.slice (some ⟨g, 0, none⟩) p c) (.slice (some ⟨g, (p + 1), none⟩) (k - p) (c - (p + 1))) (by simp [Act.eval, Act.put]) (by simp [Act.eval, Act.put]) (hap 50 (c - (p + 1))) ?_)
  go_wp2
  go_ret
  exact ⟨rfl, HD.out.1, HD.out.2⟩
theorem clrS (W : World) (ty : TypeId) (g o cc : Nat) (hc : ∀ j, j < 7 → (W.cell? ⟨g, o + j, none⟩).isSome = true) (hf : ∀ j, j < 7 → W.frozen? ⟨g, o + j, none⟩ = false) : (Builtin.clear_ #[51] ty #[.slice (some ⟨g, o, none⟩) 1 cc]).run Tryz.prog W = .ok (.tuple #[]) (W.setCells g o [.int .i64 0, .int .i64 0, .int .i64 0, .int .i64 0, .int .i64 0, .int .i64 0, .int .i64 0]) := by
 have hst := run_storeCells_cells (P := Tryz.prog) g o [.int .i64 0, .int .i64 0, .int .i64 0, .int .i64 0, .int .i64 0, .int .i64 0, .int .i64 0] 0 W (fun j hj => by rw [Nat.add_zero]; exact hc j hj) (fun j hj => by rw [Nat.add_zero]; exact hf j hj) (by simp [Value.oneCell'])
 simp only [Nat.add_zero] at hst
 have hv : (zeroValue 29).run Tryz.prog W = .ok (.agg #[.int .i64 0, .int .i64 0, .int .i64 0, .int .i64 0, .int .i64 0, .int .i64 0, .int .i64 0]) W := by
  obtain ⟨i0, hi, hz0, hz1, hz2⟩ := info_parts infoSt7
  simp [zeroValue, typeInfo, hi, hz0]
 have hz : (Builtin.zeroCells (Value.cells (.agg #[.int .i64 0, .int .i64 0, .int .i64 0, .int .i64 0, .int .i64 0, .int .i64 0, .int .i64 0])) 1).toList = [.int .i64 0, .int .i64 0, .int .i64 0, .int .i64 0, .int .i64 0, .int .i64 0, .int .i64 0] := by simp [Builtin.zeroCells, Value.cells, List.range, List.range.loop]
 simp [Builtin.clear_, run_underlying Tryz.underlying51, hv]
 rw [hz, hst]
 rfl
theorem delS (g k c B p : Nat) (xs : List Value) (w : World) (hO : w.ownsRow B 29 7 (.slice (some ⟨g, 0, none⟩) (k + 1) c) (k + 1) xs) (hB : B ≤ w.heap.size) (hn : k ≤ 1000) (hp : p ≤ k) (h1 : ∀ u ∈ xs, u.oneCell' = true) :
  Calls Tryz.prog 188 #[.slice (some ⟨g, 0, none⟩) (k + 1) c, .int .i64 (p : Int), .int .i64 ((p : Int) + 1)] w fun e w' => e = .returned (.slice (some ⟨g, 0, none⟩) k c) ∧ w'.ownsRow B 29 7 (.slice (some ⟨g, 0, none⟩) k c) k (xs.take (p * 7) ++ xs.drop (p * 7 + 7)) ∧ w.grownBy w' (some g) := by
 obtain ⟨k1, k2, k3, k4, k5⟩ := own_cells hO
 have hxl : xs.length = (k + 1) * 7 := hO.1
 have hm5 : maxLen = 9223372036854775807 := by unfold maxLen; omega
 have hdl : (xs.drop (p * 7 + 7)).length = (k - p) * 7 := by rw [List.length_drop, hxl]; omega
 obtain ⟨i0, hi0, hz0, hzs, hzb⟩ := info_parts infoSt7
 have hap : ∀ ty sc, (Builtin.append_ #[51, 51] ty #[.slice (some ⟨g, 0, none⟩) p c, .slice (some ⟨g, (p + 1) * 7, none⟩) (k - p) sc]).run Tryz.prog w.drew = .ok (.slice (some ⟨g, 0, none⟩) k c) (w.drew.setCells g (p * 7) (xs.drop (p * 7 + 7))) := fun ty sc => by
  have h := run_append_room_cells (P := Tryz.prog) w.drew 51 ty 29 i0 Tryz.underlying51 hi0 g 0 p c ⟨g, (p + 1) * 7, none⟩ (k - p) sc (xs.drop (p * 7 + 7)) (by rw [hzs]; exact hdl)
   (fun j v hj => by rw [Addr.add_lit]; have := k1 (p * 7 + 7 + j) v (by rwa [List.getElem?_drop] at hj); rw [show (p + 1) * 7 + j = p * 7 + 7 + j by omega]; exact this) (fun v hv => h1 v (List.mem_of_mem_drop hv)) (by omega) (fun j hj => by rw [hzs]; exact k2 _ (by omega)) (fun j hj => k3 _)
  rw [hzs, Nat.zero_add, show p + (k - p) = k by omega] at h
  exact h
 obtain ⟨W1, hW1⟩ : ∃ W1, W1 = w.drew.setCells g (p * 7) (xs.drop (p * 7 + 7)) := ⟨_, rfl⟩
 have hk2 : ∀ j, j < c * 7 → (w.cell? ⟨g, j, none⟩).isSome = true := k2
 have hcl : ∀ ty cc, (Builtin.clear_ #[51] ty #[.slice (some ⟨g, k * 7, none⟩) 1 cc]).run Tryz.prog W1 = .ok (.tuple #[]) (W1.setCells g (k * 7) [.int .i64 0, .int .i64 0, .int .i64 0, .int .i64 0, .int .i64 0, .int .i64 0, .int .i64 0]) := fun ty cc => by
  skip
  exact clrS W1 ty g (k * 7) cc (fun j hj => by rw [hW1]; exact Go.Proofs.isSome_setCells g (xs.drop (p * 7 + 7)) (p * 7) w.drew (fun t ht => hk2 _ (by omega)) _ (hk2 _ (by omega))) (fun j hj => by rw [hW1, World.frozen?_setCells]; exact k3 _)
 have hd := own_del (zs := [.int .i64 0, .int .i64 0, .int .i64 0, .int .i64 0, .int .i64 0, .int .i64 0, .int .i64 0]) hO hp rfl
 rw [← hW1] at hap hd
 have hap0 : k = p → ∀ ty a sc, (Builtin.append_ #[51, 51] ty #[.slice (some ⟨g, 0, none⟩) p c, .slice (some a) 0 sc]).run Tryz.prog w.drew = .ok (.slice (some ⟨g, 0, none⟩) k c) W1 := fun hkp ty a sc => by
  have h := run_append_room_cells (P := Tryz.prog) w.drew 51 ty 29 i0 Tryz.underlying51 hi0 g 0 p c a 0 sc [] (by simp) (fun j v hj => by simp at hj) (fun v hv => by simp at hv) (by omega) (fun j hj => by simp at hj) (fun j hj => by simp at hj)
  rw [h, hW1, List.drop_of_length_le (by omega), hkp]
  rfl
 have HD := J hd
 have mixed : Tryz.prog.follows .mixedOrders = true := by kernel_rfl
 have hw1 : IntKind.i64.wrap ((p : Int) + 1) = (p : Int) + 1 := by rw [IntKind.wrap_i64]; omega
 have hb1 : (0 : Int) ≤ (p : Int) + 1 := by omega
 have hk0 : (k : Int) ≤ (k : Int) + 1 := by omega
 have hb2 : ¬ (p : Int) = (p : Int) + 1 := by omega
 have hb3 : (p : Int) + 1 ≤ (k : Int) + 1 := by omega
 have htn : ((p : Int) + 1).toNat = p + 1 := by omega
 have hpk : p ≤ k := hp
 have hpk1 : p + 1 ≤ k + 1 := by omega
 have hpc : p ≤ c := by omega
 have hkc : k ≤ c := by omega
 have hkc1 : k + 1 ≤ c := k4
 have hc1 : ¬ c = k := by omega
 have hc2 : ¬ c = p := by omega
 have hc63 : c ≤ 9223372036854775807 := by omega
 clear k1 k2 k3 hk2 hxl hdl h1 hi0 hz0 hzs hzb
 by_cases hcp : c = p + 1
 ·have hkp : k = p := by omega
  subst hkp
  subst hcp
  have hap0 := hap0
  clear hO hd hW1
  go_enter Tryz.func188, Tryz.ntmps188
  go_wp2
  go_region_law_o (refine step_append_runI rfl _ _ 51 51 rfl (.slice (some ⟨g, 0, none⟩) k (k + 1)) (.slice (some ⟨g, 0, none⟩) 0 0) (by simp [Act.eval, Act.put]) (by simp [Act.eval, Act.put]) (hap0 trivial 51 ⟨g, 0, none⟩ 0) ?_)
  go_wp2
  go_ret
  exact ⟨rfl, HD.out.1, HD.out.2⟩
 ·have HCP := J hcp
  clear hO hW1 hd hap0
  go_enter Tryz.func188, Tryz.ntmps188
  go_wp2
  go_region_law_o (refine step_append_runI rfl _ _ 51 51 rfl (.slice (some ⟨g, 0, none⟩) p c) (.slice (some ⟨g, (p + 1) * 7, none⟩) (k - p) (c - (p + 1))) (by simp [Act.eval, Act.put]) (by simp [Act.eval, Act.put]) (hap 51 (c - (p + 1))) ?_)
  go_wp2
  go_ret
  exact ⟨rfl, HD.out.1, HD.out.2⟩
end LcM
namespace LcW
open Go.RowKit Base Mem MemS LabM LabV StM CarM LcA LcC LcI LcM
theorem without_any (L : Lb) (v : Value) (x : ByteArray) (w : World) (h : LabAt w v L) (hl : L.1.length = L.2.length) (hn : L.1.length ≤ 6) (hh : hasS L.1 x = true) :
  Calls Tryz.prog 140 #[v, .string x] w fun e w' => ∃ v', e = .returned v' ∧ LabOwn w.heap.size w' v' (goneR L x) ∧ Below w.heap.size w w' := by
 obtain ⟨p, hpv⟩ : ∃ p, p = posS L.1 x := ⟨_, rfl⟩
 have hp1 : p < L.1.length := by rw [hpv]; exact (of_decide_eq_true hh).1
 obtain ⟨k, hk⟩ : ∃ k, L.1.length = k + 1 := ⟨L.1.length - 1, by omega⟩
 have hk2 : L.2.length = k + 1 := by omega
 have HR : goneR L x = (L.1.take p ++ L.1.drop (p + 1), L.2.take p ++ L.2.drop (p + 1)) := by unfold goneR; rw [hpv]
 rw [HR]
 have hfl : ints (flat (L.2.take p ++ L.2.drop (p + 1))) = (ints (flat L.2)).take (p * 7) ++ (ints (flat L.2)).drop (p * 7 + 7) := by rw [flat_del, Nat.mul_comm 7 p]; simp [ints, List.map_take, List.map_drop]
 have htx : texts (L.1.take p ++ L.1.drop (p + 1)) = (texts L.1).take p ++ (texts L.1).drop (p + 1) := by simp [texts, List.map_take, List.map_drop]
 have hll2 : (L.2.take p ++ L.2.drop (p + 1)).length = k := by simp; omega
 have hll1 : (L.1.take p ++ L.1.drop (p + 1)).length = k := by simp; omega
 have hv0 := h
 obtain ⟨A, c, A', c', rfl, hx, hy, _⟩ := h
 obtain ⟨W3, hW3⟩ : ∃ W3, W3 = (w.alloc (.cells #[.slice A L.1.length c, .slice A' L.2.length c'] 53)).alloc (.cells #[.slice none 0 0, .slice none 0 0] 53) := ⟨_, rfl⟩
 have b3 : Below w.heap.size w W3 := by rw [hW3]; exact ((Below.refl _ _).alloc (Nat.le_refl _) _).alloc (by simp) _
 have hz3 : W3.heap.size = w.heap.size + 2 := by rw [hW3]; simp
 have KR : Blk.Blk W3 (w.heap.size + 1) 53 #[.slice none 0 0, .slice none 0 0] := by rw [hW3]; exact Blk.Blk.newAt _ _ (by simp)
 have HCl := J (labClone_any L (.agg #[.slice A L.1.length c, .slice A' L.2.length c']) W3 (hv0.below b3) (by omega) (by omega))
 have HW := J hW3
 have HLL := J hl
 have HKK := J (And.intro hk hk2)
 have H45 := J (And.intro hp1 hn)
 have HTX := J htx
 have HL2 := J hll2
 have HL1 := J hll1
 have HFL := J hfl
 clear hW3 hx hy hl hv0 hk hk2 hfl htx hll1 hll2 HR
 go_enter Tryz.func140, Tryz.ntmps140
 go_wp2_with fail
 rw [← HW.out]
 refine HCl.out.mono ?_
 rintro e w1 ⟨v1, rfl, ⟨A1, c1, A2, c2, rfl, o1, o2⟩, b1⟩
 obtain ⟨W4, hW4⟩ : ∃ W4, W4 = w1.alloc (.cells #[.slice A1 L.1.length c1, .slice A2 L.2.length c2] 53) := ⟨_, rfl⟩
 have b4 : Below w1.heap.size w1 W4 := by rw [hW4]; exact (Below.refl _ _).alloc (Nat.le_refl _) _
 have KT : Blk.Blk W4 w1.heap.size 53 #[.slice A1 L.1.length c1, .slice A2 L.2.length c2] := by rw [hW4]; exact Blk.Blk.new _ _ _
 have b34 := Base.Below.nextA b1 b4
 have p1 := ownsRow_below o1 b4
 have p2 := ownsRow_below o2 b4
 have HSr := J (search_any A1 c1 W4.heap.size L.1 x W4 (OwnT.rd p1) (by have := H45.out.2; omega))
 rw [hh, ← hpv] at HSr
 have HW4 := J hW4
 have KR4 := KR.belowS b34
 have B4 := Base.Below.nextA b3 b34
 have hz1 := b1.size
 have hz4 : W4.heap.size = w1.heap.size + 1 := by rw [hW4]; simp
 clear hW4 b4 b34 b1 o1 o2 KR b3 HCl HW
 go_wp2_with fail
 rw [← HW4.out]
 refine HSr.out.mono ?_
 rintro e w2 ⟨rfl, hb2⟩
 have KR := J (KR4.belowS hb2)
 have KT := J (KT.belowS hb2)
 have HB := J (Base.Below.nextA B4 hb2)
 have q1 := ownsRow_below p1 hb2
 have q2 := ownsRow_below p2 hb2
 have hz2 := hb2.size
 clear KR4 B4 p1 p2 hb2 HSr HW4
 obtain ⟨hk, hk2⟩ := HKK.out
 obtain ⟨hp1, hn⟩ := H45.out
 rw [hk] at q1 KT ⊢
 rw [hk2] at q2 KT ⊢
 obtain ⟨g1, rfl⟩ : ∃ g, A1 = some ⟨g, 0, none⟩ := (own_none q1).resolve_left (fun h => by omega)
 obtain ⟨g2, rfl⟩ : ∃ g, A2 = some ⟨g, 0, none⟩ := (own_none q2).resolve_left (fun h => by omega)
 have Q1 := J q1
 have Q2 := J q2
 have HZ3 : Hid (W3.heap.size ≤ w2.heap.size) := J (by omega)
 have HW3 : Hid (w.heap.size ≤ W3.heap.size) := J (by omega)
 have HZW : Hid (w.heap.size ≤ w2.heap.size) := J (by omega)
 have HK6 : Hid (k ≤ 1000) := J (by omega)
 have HPK : Hid (p ≤ k) := J (by omega)
 have H13 : Hid (w1.heap.size ≠ w.heap.size + 1) := J (by omega)
 have H14 : Hid (w.heap.size ≤ w1.heap.size) := J (by omega)
 have hw1 : IntKind.i64.wrap ((p : Int) + 1) = (p : Int) + 1 := by rw [IntKind.wrap_i64]; omega
 clear q1 q2 hh hpv hz1 hz2 hz3 hz4 hp1 hk hk2 hn HLL
 go_wp2_with fail
 obtain ⟨S, hSE⟩ : ∃ S : World → Prop, S = fun w' => w'.cell? ⟨w1.heap.size, 0, none⟩ = some (.slice (some ⟨g1, 0, none⟩) (k + 1) c1) ∧ w'.cell? ⟨w1.heap.size, 1, none⟩ = some (.slice (some ⟨g2, 0, none⟩) (k + 1) c2) := ⟨_, rfl⟩
 have HSE := J hSE
 have HSA : Hid (∀ V, Blk.Blk V w1.heap.size 53 #[.slice (some ⟨g1, 0, none⟩) (k + 1) c1, .slice (some ⟨g2, 0, none⟩) (k + 1) c2] → S V) := J (fun V h1 => by rw [hSE]; exact ⟨h1.at 0 rfl, h1.at 1 rfl⟩)
 clear hSE
 have KTd : Hid (Blk.Blk w2.drew w1.heap.size 53 #[.slice (some ⟨g1, 0, none⟩) (k + 1) c1, .slice (some ⟨g2, 0, none⟩) (k + 1) c2]) := J KT.out
 have KRd : Hid (Blk.Blk w2.drew (w.heap.size + 1) 53 #[.slice none 0 0, .slice none 0 0]) := J KR.out
 have Q1d : Hid (w2.drew.ownsRow W3.heap.size 9 1 (.slice (some ⟨g1, 0, none⟩) (k + 1) c1) (k + 1) (texts L.1)) := J Q1.out
 have Q2d : Hid (w2.drew.ownsRow W3.heap.size 29 7 (.slice (some ⟨g2, 0, none⟩) (k + 1) c2) (k + 1) (ints (flat L.2))) := J Q2.out
 have HBd : Hid (Below w.heap.size w w2.drew) := J HB.out.drew
 refine Late.start S [13, 14, 15] 16 (by kernel_rfl) (HSA.out _ KTd.out) rfl (fun hS => ?_)
 refine Late.take (i := 0) (v := ?_) (by rfl) (by kernel_rfl) (by kernel_rfl) (by kernel_rfl) (by intro _ _ _ h; exact h) (by kernel_rfl) (by kernel_rfl) (Or.inl ⟨by rfl, ?_⟩) hS ?_
 rotate_left
 ·(intro W' hW'; rw [HSE.out] at hW'; obtain ⟨q0, q1⟩ := hW'; go_simp; (try with_reducible rfl))
 try simp only [Act.put, List.setIfInBounds_toArray, List.set_cons_zero, List.set_cons_succ]
 refine Late.take (i := 1) (v := ?_) (by rfl) (by kernel_rfl) (by kernel_rfl) (by kernel_rfl) (by intro _ _ _ h; exact h) (by kernel_rfl) (by kernel_rfl) (Or.inl ⟨by rfl, ?_⟩) hS ?_
 rotate_left
 ·(intro W' hW'; rw [HSE.out] at hW'; obtain ⟨q0, q1⟩ := hW'; go_simp; (try with_reducible rfl))
 try simp only [Act.put, List.setIfInBounds_toArray, List.set_cons_zero, List.set_cons_succ]
 refine Late.take (i := 2) (v := ?_) (by rfl) (by kernel_rfl) (by kernel_rfl) (by kernel_rfl) (by intro _ _ _ h; exact h) (by kernel_rfl) (by kernel_rfl) (Or.inl ⟨by rfl, ?_⟩) hS ?_
 rotate_left
 ·(intro W' hW'; rw [HSE.out] at hW'; obtain ⟨q0, q1⟩ := hW'; go_simp; (try with_reducible rfl))
 try simp only [Act.put, List.setIfInBounds_toArray, List.set_cons_zero, List.set_cons_succ]
 refine Late.take (i := 3) (v := ?_) (by rfl) (by kernel_rfl) (by kernel_rfl) (by kernel_rfl) (by intro _ _ _ h; exact h) (by kernel_rfl) (by kernel_rfl) (Or.inl ⟨by rfl, ?_⟩) hS ?_
 rotate_left
 ·(intro W' hW'; rw [HSE.out] at hW'; obtain ⟨q0, q1⟩ := hW'; go_simp; (try with_reducible rfl))
 try simp only [Act.put, List.setIfInBounds_toArray, List.set_cons_zero, List.set_cons_succ]
 refine Late.take (i := 4) (v := ?_) (by rfl) (by kernel_rfl) (by kernel_rfl) (by kernel_rfl) (by intro _ _ _ h; exact h) (by kernel_rfl) (by kernel_rfl) (Or.inl ⟨by rfl, ?_⟩) hS ?_
 rotate_left
 ·(intro W' hW'; rw [HSE.out] at hW'; obtain ⟨q0, q1⟩ := hW'; go_simp; (try with_reducible rfl))
 try simp only [Act.put, List.setIfInBounds_toArray, List.set_cons_zero, List.set_cons_succ]
 refine Late.take (i := 6) (v := ?_) (by rfl) (by kernel_rfl) (by kernel_rfl) (by kernel_rfl) (by intro _ _ _ h; exact h) (by kernel_rfl) (by kernel_rfl) (Or.inl ⟨by rfl, ?_⟩) hS ?_
 rotate_left
 ·(intro W' hW'; rw [HSE.out] at hW'; obtain ⟨q0, q1⟩ := hW'; go_simp; (try with_reducible rfl))
 try simp only [Act.put, List.setIfInBounds_toArray, List.set_cons_zero, List.set_cons_succ]
 refine Late.take (i := 7) (v := ?_) (by rfl) (by kernel_rfl) (by kernel_rfl) (by kernel_rfl) (by intro _ _ _ h; exact h) (by kernel_rfl) (by kernel_rfl) (Or.inl ⟨by rfl, ?_⟩) hS ?_
 rotate_left
 ·(intro W' hW'; rw [HSE.out] at hW'; obtain ⟨q0, q1⟩ := hW'; go_simp; (try with_reducible rfl))
 try simp only [Act.put, List.setIfInBounds_toArray, List.set_cons_zero, List.set_cons_succ]
 refine Late.take (i := 8) (v := ?_) (by rfl) (by kernel_rfl) (by kernel_rfl) (by kernel_rfl) (by intro _ _ _ h; exact h) (by kernel_rfl) (by kernel_rfl) (Or.inl ⟨by rfl, ?_⟩) hS ?_
 rotate_left
 ·(intro W' hW'; rw [HSE.out] at hW'; obtain ⟨q0, q1⟩ := hW'; go_simp; (try with_reducible rfl))
 try simp only [Act.put, List.setIfInBounds_toArray, List.set_cons_zero, List.set_cons_succ]
 refine Late.take (i := 9) (v := ?_) (by rfl) (by kernel_rfl) (by kernel_rfl) (by kernel_rfl) (by intro _ _ _ h; exact h) (by kernel_rfl) (by kernel_rfl) (Or.inl ⟨by rfl, ?_⟩) hS ?_
 rotate_left
 ·(intro W' hW'; rw [HSE.out] at hW'; obtain ⟨q0, q1⟩ := hW'; go_simp; (try with_reducible rfl))
 try simp only [Act.put, List.setIfInBounds_toArray, List.set_cons_zero, List.set_cons_succ]
 refine Late.take (i := 10) (v := ?_) (by rfl) (by kernel_rfl) (by kernel_rfl) (by kernel_rfl) (by intro _ _ _ h; exact h) (by kernel_rfl) (by kernel_rfl) (Or.inl ⟨by rfl, ?_⟩) hS ?_
 rotate_left
 ·(intro W' hW'; rw [HSE.out] at hW'; obtain ⟨q0, q1⟩ := hW'; go_simp; (try with_reducible rfl))
 try simp only [Act.put, List.setIfInBounds_toArray, List.set_cons_zero, List.set_cons_succ]
 refine Late.one (i := 5) (by kernel_rfl) (by rfl) (fun K' hK => ?_)
 go_simp
 refine (delT g1 k c1 W3.heap.size p (texts L.1) w2.drew Q1d.out (Nat.le_trans HZ3.out (Nat.le_refl _)) HK6.out HPK.out (one_texts _)).mono ?_
 rintro e w5 ⟨rfl, o, gr⟩
 have KT5 := J (blkFar KTd.out Q1d.out gr)
 have KR5 := J (blkFar KRd.out Q1d.out gr)
 have R25 := J (LvT.rowKept Q2d.out Q1d.out (by decide) gr)
 have R15 := J o
 have HB5 := J (HBd.out.trans (grown_below gr (fun q e => Nat.le_trans HW3.out (ownsRow_block Q1d.out e).choose_spec.2.1) HBd.out.size))
 have hz5 : w2.heap.size ≤ w5.heap.size := Nat.le_trans (Nat.le_refl _) gr.size
 clear o gr
 go_simp
 refine hK.out _ _ (fun _ => HSA.out _ (KT5.out)) (fun hS' => ?_)
 have hS := hS' (by decide)
 clear hS' hK
 clear K'
 try simp only [Act.put, List.setIfInBounds_toArray, List.set_cons_zero, List.set_cons_succ]
 refine Late.take (i := 12) (v := ?_) (by rfl) (by kernel_rfl) (by kernel_rfl) (by kernel_rfl) (by intro _ _ _ h; exact h) (by kernel_rfl) (by kernel_rfl) (Or.inl ⟨by rfl, ?_⟩) hS ?_
 rotate_left
 ·(intro W' hW'; rw [HSE.out] at hW'; obtain ⟨q0, q1⟩ := hW'; go_simp; (try with_reducible rfl))
 try simp only [Act.put, List.setIfInBounds_toArray, List.set_cons_zero, List.set_cons_succ]
 refine Late.one (i := 11) (by kernel_rfl) (by rfl) (fun K' hK => ?_)
 go_simp
 refine (delS g2 k c2 W3.heap.size p (ints (flat L.2)) w5 R25.out (Nat.le_trans HZ3.out hz5) HK6.out HPK.out (one_ints _)).mono ?_
 rintro e w6 ⟨rfl, o, gr⟩
 have KT6 := J (blkFar KT5.out R25.out gr)
 have KR6 := J (blkFar KR5.out R25.out gr)
 have R16 := J (LvT.rowKept R15.out R25.out (by decide) gr)
 have R26 := J o
 have HB6 := J (HB5.out.trans (grown_below gr (fun q e => Nat.le_trans HW3.out (ownsRow_block R25.out e).choose_spec.2.1) HB5.out.size))
 have hz6 : w2.heap.size ≤ w6.heap.size := Nat.le_trans hz5 gr.size
 clear o gr
 go_simp
 refine hK.out _ _ (fun _ => HSA.out _ (KT6.out)) (fun hS' => ?_)
 have hS := hS' (by decide)
 clear hS' hK
 clear K'
 try simp only [Act.put, List.setIfInBounds_toArray, List.set_cons_zero, List.set_cons_succ]
 have s0 := KT6.out.at 0 (v := .slice (some ⟨g1, 0, none⟩) (k + 1) c1) rfl
 have s1 := KT6.out.at 1 (v := .slice (some ⟨g2, 0, none⟩) (k + 1) c2) rfl
 have s2 := KT6.out.frz 0
 have s3 := KT6.out.frz 1
 refine Late.one (i := 13) (by kernel_rfl) (by rfl) (fun K' hK => ?_)
 go_simp
 refine hK.out _ _ (fun h => absurd h (by decide)) (fun _ => ?_)
 clear hK
 clear K'
 try simp only [Act.put, List.setIfInBounds_toArray, List.set_cons_zero, List.set_cons_succ]
 refine Late.one (i := 14) (by kernel_rfl) (by rfl) (fun K' hK => ?_)
 go_simp
 refine hK.out _ _ (fun h => absurd h (by decide)) (fun _ => ?_)
 clear hK
 clear K'
 try simp only [Act.put, List.setIfInBounds_toArray, List.set_cons_zero, List.set_cons_succ]
 refine Late.one (i := 15) (by kernel_rfl) (by rfl) (fun K' hK => ?_)
 go_simp
 refine hK.out _ _ (fun h => absurd h (by decide)) (fun _ => ?_)
 clear hK
 clear K'
 try simp only [Act.put, List.setIfInBounds_toArray, List.set_cons_zero, List.set_cons_succ]
 refine Late.done (by kernel_rfl) ?_ _
 clear s0 s1 s2 s3 hS
 all_goals
  obtain ⟨W7, hW7⟩ : ∃ W7, W7 = (w6.setCell ⟨w1.heap.size, 0, none⟩ (.slice (some ⟨g1, 0, none⟩) k c1)).setCell ⟨w1.heap.size, 1, none⟩ (.slice (some ⟨g2, 0, none⟩) k c2) := ⟨_, rfl⟩
  have HW7 := J hW7
  have KT7 : Blk.Blk W7 w1.heap.size 53 #[(.slice (some ⟨g1, 0, none⟩) k c1), (.slice (some ⟨g2, 0, none⟩) k c2)] := by rw [hW7]; exact (KT6.out.setTo 0 (.slice (some ⟨g1, 0, none⟩) k c1) rfl).setTo 1 (.slice (some ⟨g2, 0, none⟩) k c2) rfl
  have KR7 : Blk.Blk W7 (w.heap.size + 1) 53 #[.slice none 0 0, .slice none 0 0] := by rw [hW7]; exact (KR6.out.other _ H13.out).other _ H13.out
  have HB7 : Below w.heap.size w W7 := by rw [hW7]; exact (HB6.out.setCell (p := ⟨w1.heap.size, 0, none⟩) H14.out _).setCell (p := ⟨w1.heap.size, 1, none⟩) H14.out _
  have P1 : W7.ownsRow W3.heap.size 9 1 (.slice (some ⟨g1, 0, none⟩) k c1) k ((texts L.1).take p ++ (texts L.1).drop (p + 1)) := by
   have h := ownsRow_setCell_below' R16.out KT6.out 0 (.slice (some ⟨g1, 0, none⟩) k c1) 1 (.slice (some ⟨g2, 0, none⟩) k c2)
   rw [hW7]; exact h
  have P2 : W7.ownsRow W3.heap.size 29 7 (.slice (some ⟨g2, 0, none⟩) k c2) k ((ints (flat L.2)).take (p * 7) ++ (ints (flat L.2)).drop (p * 7 + 7)) := by rw [hW7]; exact ownsRow_setCell_below' R26.out KT6.out 0 (.slice (some ⟨g1, 0, none⟩) k c1) 1 (.slice (some ⟨g2, 0, none⟩) k c2)
  rw [← HTX.out] at P1
  rw [← HFL.out] at P2
  have O1 := ownsRow_base P1 HW3.out
  have O2 := ownsRow_base P2 HW3.out
  have t0 := KT7.at 0 (v := (.slice (some ⟨g1, 0, none⟩) k c1)) rfl
  have t1 := KT7.at 1 (v := (.slice (some ⟨g2, 0, none⟩) k c2)) rfl
  have r0 := KR7.at 0 (v := .slice none 0 0) rfl
  have r1 := KR7.at 1 (v := .slice none 0 0) rfl
  have f0 := KR7.frz 0
  have f1 := KR7.frz 1
  have KK := (KR7.setTo 0 (.slice (some ⟨g1, 0, none⟩) k c1) rfl).setTo 1 (.slice (some ⟨g2, 0, none⟩) k c2) rfl
  have k0 := KK.at 0 (v := (.slice (some ⟨g1, 0, none⟩) k c1)) rfl
  have k1 := KK.at 1 (v := (.slice (some ⟨g2, 0, none⟩) k c2)) rfl
  have HFIN := J (And.intro (ownsRow_setCell_below' O1 KR7 0 (.slice (some ⟨g1, 0, none⟩) k c1) 1 (.slice (some ⟨g2, 0, none⟩) k c2)) (And.intro (ownsRow_setCell_below' O2 KR7 0 (.slice (some ⟨g1, 0, none⟩) k c1) 1 (.slice (some ⟨g2, 0, none⟩) k c2)) ((HB7.setCell (p := ⟨w.heap.size + 1, 0, none⟩) (by simp) (.slice (some ⟨g1, 0, none⟩) k c1)).setCell (p := ⟨w.heap.size + 1, 1, none⟩) (by simp) (.slice (some ⟨g2, 0, none⟩) k c2))))
  have HY : Hid (∀ (W : World), (W.ownsRow w.heap.size 9 1 (.slice (some ⟨g1, 0, none⟩) k c1) k (texts (L.1.take p ++ L.1.drop (p + 1))) ∧ W.ownsRow w.heap.size 29 7 (.slice (some ⟨g2, 0, none⟩) k c2) k (ints (flat (L.2.take p ++ L.2.drop (p + 1)))) ∧ Below w.heap.size w W) → ∃ v', Ending.returned (.agg #[(.slice (some ⟨g1, 0, none⟩) k c1), (.slice (some ⟨g2, 0, none⟩) k c2)]) = .returned v' ∧ LabOwn w.heap.size W v' (L.1.take p ++ L.1.drop (p + 1), L.2.take p ++ L.2.drop (p + 1)) ∧ Below w.heap.size w W) := J (fun W h => by
   obtain ⟨h1, h2, h3⟩ := h
   refine ⟨_, rfl, ⟨some ⟨g1, 0, none⟩, c1, some ⟨g2, 0, none⟩, c2, ?_, ?_, ?_⟩, h3⟩
   ·rw [HL1.out, HL2.out]
   ·rw [HL1.out]; exact h1
   ·rw [HL2.out]; exact h2)
  clear KT KR HB Q1 Q2 HSA HSE KT5 KR5 KT6 KR6 HB5 HB6 R15 R25 R16 R26 KTd KRd Q1d Q2d HBd P1 P2 O1 O2 KT7 KR7 HB7 KK hW7 hz5 hz6
  rw [← HW7.out]
  go_wp2
  refine bodyPost_ret (v := .agg #[(.slice (some ⟨g1, 0, none⟩) k c1), (.slice (some ⟨g2, 0, none⟩) k c2)]) (by simp [results, Tryz.results140, go_sem, k0, k1]) rfl ?_
  exact HY.out _ ⟨HFIN.out.1, HFIN.out.2.1, HFIN.out.2.2⟩
end LcW
namespace LcG
open Go.RowKit Base Mem MemS LabM LabV StM Str StTx Dec Val Rd CarM LcA LcC
open Take (SBox set7)
def Ev2 (B b : Nat) (t : TypeId) (z f : Array Value) (b2 : Nat) (t2 : TypeId) (g : Array Value) (w w' : World) : Prop := RelR.EvBox B b t z f w w' ∧ (Blk.Blk w b2 t2 g → Blk.Blk w' b2 t2 g)
theorem ev2_ok (B b : Nat) (t : TypeId) (z f : Array Value) (b2 : Nat) (t2 : TypeId) (g : Array Value) : RelR.EvOk (Ev2 B b t z f b2 t2 g) where
 refl w := ⟨(RelR.evBox_ok B b t z f).refl w, id⟩
 trans w w' w'' h1 h2 := ⟨(RelR.evBox_ok B b t z f).trans w w' w'' h1.1 h2.1, fun h => h2.2 (h1.2 h)⟩
 drew w := ⟨(RelR.evBox_ok B b t z f).drew w, id⟩
theorem ev2_of {B b b2 : Nat} {t t2 : TypeId} {z f g : Array Value} {w w' : World} (hB : B ≤ w.heap.size) (h : Below w.heap.size w w') : Ev2 B b t z f b2 t2 g w w' := ⟨RelR.evBox_of hB h, fun k => k.belowS h⟩
theorem use_show {L : Lb} {nm : ByteArray} {r : St} (hf : findR L nm = some r) (hv : r.ok = true) (hl : L.1.length = L.2.length) (hn : L.1.length ≤ 6) (v : Value) (w : World) (h : LabAt w v L) (ht : Tabs w) :
  Calls Tryz.prog 88 #[v, .string ⟨#[115, 104, 111, 119]⟩, .string nm] w fun e w' => e = .returned (.tuple #[v, .string (tx (textS r.K r.W r.T r.m r.f r.a r.s)), .bool true]) ∧ Below w.heap.size w w' := by
 have HTx := J (fun W (hb : Below w.heap.size w W) => streamText_any r.K r.W r.T r.m r.f r.a r.s W (ht.on hb).1 hv)
 obtain ⟨t3, ht3⟩ : ∃ t, t = tx (textS r.K r.W r.T r.m r.f r.a r.s) := ⟨_, rfl⟩
 rw [← ht3] at HTx ⊢
 clear ht3
 have hv0 := h
 obtain ⟨A, c, A', c', rfl, hx, hy, _⟩ := h
 obtain ⟨W2, hW2⟩ : ∃ W2, W2 = (w.alloc (.cells #[.slice A L.1.length c, .slice A' L.2.length c'] 53)).alloc (.cells #[.slice none 0 0, .slice none 0 0] 53) := ⟨_, rfl⟩
 have b2 : Below w.heap.size w W2 := by rw [hW2]; exact ((Below.refl _ _).alloc (Nat.le_refl _) _).alloc (by simp) _
 have KL : Hid (Blk.Blk W2 w.heap.size 53 #[.slice A L.1.length c, .slice A' L.2.length c']) := J (by rw [hW2]; exact (Blk.Blk.new w _ _).alloc _)
 have KR : Hid (Blk.Blk W2 (w.heap.size + 1) 53 #[.slice none 0 0, .slice none 0 0]) := J (by rw [hW2]; exact Blk.Blk.newAt _ _ (by simp))
 have HF := J (find_ex L (.agg #[.slice A L.1.length c, .slice A' L.2.length c']) nm W2 (hv0.below b2) hl hn)
 have HB := J b2
 have HW := J hW2
 rw [hf] at HF
 clear hv hv0 hx hy hW2 b2 ht hl hf
 go_enter Tryz.func88, Tryz.ntmps88
 go_wp2_with fail
 rw [← HW.out]
 refine HF.out.mono ?_
 rintro e w1 ⟨r0, rfl, hr0, b1⟩
 obtain rfl := hr0 _ rfl
 have KL1 := J (KL.out.belowS b1)
 have KR1 := J (KR.out.belowS b1)
 have HB1 := J (Base.Below.nextA HB.out b1)
 have B1 := J b1
 clear b1 KL KR HF HW
 obtain ⟨K, W, T, m, f, a, s⟩ := r0
 unfold St.val
 dsimp only
 obtain ⟨W3, hW3⟩ : ∃ W3, W3 = w1.alloc (.cells #[.int .i64 K, .int .i64 W, .int .i64 T, .int .i64 m, .int .i64 f, .int .i64 a, .int .i64 s] 29) := ⟨_, rfl⟩
 have b3 : Below w1.heap.size w1 W3 := by rw [hW3]; exact (Below.refl _ _).alloc (Nat.le_refl _) _
 have HW3 := J hW3
 have KS := J (show Blk.Blk W3 w1.heap.size 29 #[.int .i64 K, .int .i64 W, .int .i64 T, .int .i64 m, .int .i64 f, .int .i64 a, .int .i64 s] by rw [hW3]; exact Blk.Blk.new _ _ _)
 have KL := J (KL1.out.belowS b3)
 have KR := J (KR1.out.belowS b3)
 have HB4 := J (Base.Below.nextA HB1.out b3)
 have HK1 := J KR1.out.lt
 have HSZ : Hid (w.heap.size + 1 ≤ W3.heap.size) := J (Nat.le_of_lt (Nat.lt_of_lt_of_le HK1.out b3.size))
 have HEV := J (ev2_ok (w.heap.size + 1) (w.heap.size + 1) 53 #[.slice none 0 0, .slice none 0 0] #[.slice A L.1.length c, .slice A' L.2.length c'] w1.heap.size 29 #[.int .i64 K, .int .i64 W, .int .i64 T, .int .i64 m, .int .i64 f, .int .i64 a, .int .i64 s])
 have HNE : Hid (w.heap.size + 1 ≠ w1.heap.size) := J (Nat.ne_of_lt HK1.out)
 clear b3 hW3 KL1 KR1 HB1
 go_wp2_with fail
 rw [← HW3.out]
 refine RelR.wp_region_rel HEV.out 4 (by kernel_rfl) (by kernel_rfl) (fun F hF => ?_)
 simp only [List.take_succ_cons, List.take_zero, List.drop_succ_cons, List.drop_zero, Rel.putL] at hF ⊢
 have HF := J hF
 clear hF
 have uv := @Rel.upon_value Tryz.prog
 have ue := @Rel.upon_enter Tryz.prog
 have us := @RelR.upon_skip Tryz.prog
 apply RelR.rel_pure HEV.out
 apply Exists.intro
 refine ⟨fun vs wq hq hdp R hR => ?_, ?_⟩
 ·(rw [HF.out, Rel.stepAt_eq]; clear hdp; have x0 := (KL.out.below hq.1.1 (Nat.lt_succ_self _)).at 0 (v := .slice A L.1.length c) rfl; have x1 := (KL.out.below hq.1.1 (Nat.lt_succ_self _)).at 1 (v := .slice A' L.2.length c') rfl; go_simp; exact hR)
 apply RelR.rel_pure HEV.out
 apply Exists.intro
 refine ⟨fun vs wq hq hdp R hR => ?_, ?_⟩
 ·(rw [HF.out, Rel.stepAt_eq]; clear hdp; have kk := hq.2 KS.out; have z0 := kk.at 0 (v := .int .i64 K) rfl; have z1 := kk.at 1 (v := .int .i64 W) rfl; have z2 := kk.at 2 (v := .int .i64 T) rfl; have z3 := kk.at 3 (v := .int .i64 m) rfl; have z4 := kk.at 4 (v := .int .i64 f) rfl; have z5 := kk.at 5 (v := .int .i64 a) rfl; have z6 := kk.at 6 (v := .int .i64 s) rfl; clear kk; go_simp; exact hR)
 apply RelR.rel_same
 apply Exists.intro
 refine ⟨fun vs wq hq hdp => ?_, ?_⟩
 ·(rw [HF.out, Rel.stepAt_eq]; have qd1 : vs 1 = _ := Rel.dep hdp 1 (by kernel_rfl); clear hdp; skip; go_simp; refine (HTx.out wq (HB4.out.trans (hq.1.1.mono (Nat.le_succ _)))).mono ?_; rintro e w7 ⟨rfl, hb⟩; exact ⟨_, rfl, rfl, ev2_of (Nat.le_trans HSZ.out hq.1.1.size) hb⟩)
 refine RelR.rel_law (S := fun _ w' => Blk.Blk w' (w.heap.size + 1) 53 #[.slice A L.1.length c, .slice A' L.2.length c']) ((fun _ _ _ h hb => hb.1.2.2 h)) (fun vs wq hq hdp => ?_) ?_
 ·(rw [HF.out, Rel.stepAt_eq]; have qd0 : vs 0 = _ := Rel.dep hdp 0 (by kernel_rfl); clear hdp; obtain ⟨u0, u1, p0, p1, p2, p3, p4, p5⟩ := RelR.evBox_put hq.1 KR.out (Nat.le_refl _); have HPP := J (And.intro p4 (show Ev2 (w.heap.size + 1) (w.heap.size + 1) 53 #[.slice none 0 0, .slice none 0 0] #[.slice A L.1.length c, .slice A' L.2.length c'] w1.heap.size 29 #[.int .i64 K, .int .i64 W, .int .i64 T, .int .i64 m, .int .i64 f, .int .i64 a, .int .i64 s] _ _ from ⟨p5, fun k => (k.other _ HNE.out).other _ HNE.out⟩)); clear p4 p5; go_simp; exact HPP.out)
 refine RelR.rel_end (fun vs wq hq hall => ?_)
 rw [HF.out]
 have qe0 : vs 0 = _ := Rel.fin hall 0 (by decide)
 have qe1 : vs 1 = _ := Rel.fin hall 1 (by decide)
 have qe2 : vs 2 = _ := Rel.fin hall 2 (by decide)
 have qe3 : Blk.Blk wq _ _ _ := Rel.fin hall 3 (by decide)
 clear hall HF uv ue us
 have k0 := qe3.at 0 (v := .slice A L.1.length c) rfl
 have k1 := qe3.at 1 (v := .slice A' L.2.length c') rfl
 have HFIN := J (HB4.out.trans (hq.1.1.mono (Nat.le_succ _)))
 clear hq qe0 qe1 qe3
 go_wp2
 refine bodyPost_ret (v := .tuple #[.agg #[.slice A L.1.length c, .slice A' L.2.length c'], .string t3, .bool true]) (by simp [results, Tryz.results88, go_sem, k0, k1]) rfl ?_
 exact ⟨rfl, HFIN.out⟩
theorem use_drop {L : Lb} {nm : ByteArray} {r : St} (hf : findR L nm = some r) (hl : L.1.length = L.2.length) (hn : L.1.length ≤ 6) (v : Value) (w : World) (h : LabAt w v L) :
  Calls Tryz.prog 88 #[v, .string ⟨#[100, 114, 111, 112]⟩, .string nm] w fun e w' => ∃ v', e = .returned (.tuple #[v', .string ⟨#[111, 107]⟩, .bool true]) ∧ LabAt w' v' (goneR L nm) ∧ Below w.heap.size w w' := by
 have hh : hasS L.1 nm = true := by unfold findR at hf; split at hf; assumption; cases hf
 have HDr := J (fun v W h => LcW.without_any L v nm W h hl hn hh)
 clear hh
 have hv0 := h
 obtain ⟨A, c, A', c', rfl, hx, hy, _⟩ := h
 obtain ⟨W2, hW2⟩ : ∃ W2, W2 = (w.alloc (.cells #[.slice A L.1.length c, .slice A' L.2.length c'] 53)).alloc (.cells #[.slice none 0 0, .slice none 0 0] 53) := ⟨_, rfl⟩
 have b2 : Below w.heap.size w W2 := by rw [hW2]; exact ((Below.refl _ _).alloc (Nat.le_refl _) _).alloc (by simp) _
 have KL : Hid (Blk.Blk W2 w.heap.size 53 #[.slice A L.1.length c, .slice A' L.2.length c']) := J (by rw [hW2]; exact (Blk.Blk.new w _ _).alloc _)
 have KR : Hid (Blk.Blk W2 (w.heap.size + 1) 53 #[.slice none 0 0, .slice none 0 0]) := J (by rw [hW2]; exact Blk.Blk.newAt _ _ (by simp))
 have HF := J (find_ex L (.agg #[.slice A L.1.length c, .slice A' L.2.length c']) nm W2 (hv0.below b2) hl hn)
 have HB := J b2
 have HW := J hW2
 rw [hf] at HF
 have HV := J hv0
 clear hv0 hx hy hW2 b2 hl hf
 go_enter Tryz.func88, Tryz.ntmps88
 go_wp2_with fail
 rw [← HW.out]
 refine HF.out.mono ?_
 rintro e w1 ⟨r0, rfl, hr0, b1⟩
 obtain rfl := hr0 _ rfl
 have KL1 := J (KL.out.belowS b1)
 have KR1 := J (KR.out.belowS b1)
 have HB1 := J (Base.Below.nextA HB.out b1)
 have B1 := J b1
 have HV1 := J ((HV.out.below HB.out).below B1.out)
 clear b1 KL KR HF HW
 obtain ⟨K, W, T, m, f, a, s⟩ := r0
 unfold St.val
 dsimp only
 have hk1 := KR1.out.lt
 obtain ⟨W3, hW3⟩ : ∃ W3, W3 = w1.alloc (.cells #[.int .i64 K, .int .i64 W, .int .i64 T, .int .i64 m, .int .i64 f, .int .i64 a, .int .i64 s] 29) := ⟨_, rfl⟩
 have b3 : Below w1.heap.size w1 W3 := by rw [hW3]; exact (Below.refl _ _).alloc (Nat.le_refl _) _
 have HW3 := J hW3
 have KS := J (show Blk.Blk W3 w1.heap.size 29 #[.int .i64 K, .int .i64 W, .int .i64 T, .int .i64 m, .int .i64 f, .int .i64 a, .int .i64 s] by rw [hW3]; exact Blk.Blk.new _ _ _)
 have KL := J (KL1.out.belowS b3)
 have KR := J (KR1.out.belowS b3)
 have HB4 := J (Base.Below.nextA HB1.out b3)
 have HK1 := J KR1.out.lt
 have HD4 := J (HDr.out (.agg #[.slice A L.1.length c, .slice A' L.2.length c']) W3 (HV1.out.below b3))
 have e0 := KL.out.at 0 (v := .slice A L.1.length c) rfl
 have e1 := KL.out.at 1 (v := .slice A' L.2.length c') rfl
 rw [hW3] at e0 e1
 clear b3 hW3 KL1 KR1 HB1 HDr HV HV1 KS
 go_wp2_with fail
 rw [← HW3.out]
 refine HD4.out.mono ?_
 rintro e w6 ⟨v6, rfl, hv6, b6⟩
 have hv7 := hv6
 obtain ⟨A7, c7, A8, c8, rfl, _, _⟩ := hv6
 have KR6 := KR.out.belowS b6
 have HB6 := Base.Below.nextA HB4.out b6
 have hk6 := KR6.lt
 have r0 := KR6.at 0 (v := .slice none 0 0) rfl
 have r1 := KR6.at 1 (v := .slice none 0 0) rfl
 have f0 := KR6.frz 0
 have f1 := KR6.frz 1
 have KK := (KR6.setTo 0 (.slice A7 (goneR L nm).1.length c7) rfl).setTo 1 (.slice A8 (goneR L nm).2.length c8) rfl
 have k0 := KK.at 0 (v := .slice A7 (goneR L nm).1.length c7) rfl
 have k1 := KK.at 1 (v := .slice A8 (goneR L nm).2.length c8) rfl
 have hvf := (ownPut hv7 (b := w.heap.size + 1) (by have := KR.out.lt; omega) (.slice A7 (goneR L nm).1.length c7) (.slice A8 (goneR L nm).2.length c8)).at
 have HFIN := J (And.intro hvf ((HB6.setCell (p := ⟨w.heap.size + 1, 0, none⟩) (Nat.le_succ _) (.slice A7 (goneR L nm).1.length c7)).setCell (p := ⟨w.heap.size + 1, 1, none⟩) (Nat.le_succ _) (.slice A8 (goneR L nm).2.length c8)))
 clear hv7 KR6 HB6 KK hvf b6 HD4 KL KR HB4 e0 e1
 go_wp2
 refine bodyPost_ret (v := .tuple #[.agg #[.slice A7 (goneR L nm).1.length c7, .slice A8 (goneR L nm).2.length c8], .string ⟨#[111, 107]⟩, .bool true]) (by simp [results, Tryz.results88, go_sem, k0, k1]) rfl ?_
 exact ⟨_, rfl, HFIN.out.1, HFIN.out.2⟩
theorem use_none {L : Lb} {nm t0 : ByteArray} (hf : findR L nm = none) (hl : L.1.length = L.2.length) (hn : L.1.length ≤ 6) (v : Value) (w : World) (h : LabAt w v L) :
  Calls Tryz.prog 88 #[v, .string t0, .string nm] w fun e w' => e = .returned (.tuple #[v, .string ⟨#[]⟩, .bool false]) ∧ Below w.heap.size w w' := by
 have hv0 := h
 obtain ⟨A, c, A', c', rfl, hx, hy, _⟩ := h
 obtain ⟨W2, hW2⟩ : ∃ W2, W2 = (w.alloc (.cells #[.slice A L.1.length c, .slice A' L.2.length c'] 53)).alloc (.cells #[.slice none 0 0, .slice none 0 0] 53) := ⟨_, rfl⟩
 have b2 : Below w.heap.size w W2 := by rw [hW2]; exact ((Below.refl _ _).alloc (Nat.le_refl _) _).alloc (by simp) _
 have KL : Hid (Blk.Blk W2 w.heap.size 53 #[.slice A L.1.length c, .slice A' L.2.length c']) := J (by rw [hW2]; exact (Blk.Blk.new w _ _).alloc _)
 have KR : Hid (Blk.Blk W2 (w.heap.size + 1) 53 #[.slice none 0 0, .slice none 0 0]) := J (by rw [hW2]; exact Blk.Blk.newAt _ _ (by simp))
 have HF := J (find_ex L (.agg #[.slice A L.1.length c, .slice A' L.2.length c']) nm W2 (hv0.below b2) hl hn)
 have HB := J b2
 have HW := J hW2
 rw [hf] at HF
 dsimp only [Option.isSome] at HF
 clear hv0 hx hy hW2 b2 hl hf
 go_enter Tryz.func88, Tryz.ntmps88
 go_wp2_with fail
 rw [← HW.out]
 refine HF.out.mono ?_
 rintro e w1 ⟨r0, rfl, _, b1⟩
 have KL1 := J (KL.out.belowS b1)
 have KR1 := J (KR.out.belowS b1)
 have HB1 := J (Base.Below.nextA HB.out b1)
 have B1 := J b1
 clear b1 KL KR HF HW
 obtain ⟨K, W, T, m, f, a, s⟩ := r0
 unfold St.val
 dsimp only
 have hk1 := KR1.out.lt
 have b3 : Below w1.heap.size w1 (w1.alloc (.cells #[.int .i64 K, .int .i64 W, .int .i64 T, .int .i64 m, .int .i64 f, .int .i64 a, .int .i64 s] 29)) := (Below.refl _ _).alloc (Nat.le_refl _) _
 have e0 := (KL1.out.belowS b3).at 0 (v := .slice A L.1.length c) rfl
 have e1 := (KL1.out.belowS b3).at 1 (v := .slice A' L.2.length c') rfl
 have r0 := (KR1.out.belowS b3).at 0 (v := .slice none 0 0) rfl
 have r1 := (KR1.out.belowS b3).at 1 (v := .slice none 0 0) rfl
 have f0 := (KR1.out.belowS b3).frz 0
 have f1 := (KR1.out.belowS b3).frz 1
 have g0 := KR1.out.at 0 (v := .slice none 0 0) rfl
 have g1 := KR1.out.at 1 (v := .slice none 0 0) rfl
 have h0 := KR1.out.frz 0
 have h1 := KR1.out.frz 1
 have KK := ((KR1.out.setTo 0 (.slice A L.1.length c) rfl).setTo 1 (.slice A' L.2.length c') rfl).alloc (.cells #[.int .i64 K, .int .i64 W, .int .i64 T, .int .i64 m, .int .i64 f, .int .i64 a, .int .i64 s] 29)
 have k0 := KK.at 0 (v := .slice A L.1.length c) rfl
 have k1 := KK.at 1 (v := .slice A' L.2.length c') rfl
 have HFIN := J (((HB1.out.setCell (p := ⟨w.heap.size + 1, 0, none⟩) (Nat.le_succ _) (.slice A L.1.length c)).setCell (p := ⟨w.heap.size + 1, 1, none⟩) (Nat.le_succ _) (.slice A' L.2.length c')).alloc (by have := HB1.out.size; simp; omega) (.cells #[.int .i64 K, .int .i64 W, .int .i64 T, .int .i64 m, .int .i64 f, .int .i64 a, .int .i64 s] 29))
 clear KK KL1 KR1 HB1 b3
 go_wp2
 refine bodyPost_ret (v := .tuple #[.agg #[.slice A L.1.length c, .slice A' L.2.length c'], .string ⟨#[]⟩, .bool false]) (by simp [results, Tryz.results88, go_sem, k0, k1]) rfl ?_
 exact ⟨rfl, HFIN.out⟩
end LcG
end Go.Proofs.YtgipnbeipfhekaaGreatDoor

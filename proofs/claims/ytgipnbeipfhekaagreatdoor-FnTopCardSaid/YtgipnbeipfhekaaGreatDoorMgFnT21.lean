/- A line of a script is carried out: the walks. -/
import Derived.Test.YtgipnbeipfhekaaGreatDoorMgFnT20
import Derived.Test.YtgipnbeipfhekaaGreatDoorMgFnT12
namespace Go.Proofs.YtgipnbeipfhekaaGreatDoor.LcG
open Go.RowKit Go.Proofs.YtgipnbeipfhekaaGreatDoor Go.Proofs.YtgipnbeipfhekaaGreatDoor.Base Go.Proofs.YtgipnbeipfhekaaGreatDoor.Mem Go.Proofs.YtgipnbeipfhekaaGreatDoor.MemS Go.Proofs.YtgipnbeipfhekaaGreatDoor.LabM Go.Proofs.YtgipnbeipfhekaaGreatDoor.LabV Go.Proofs.YtgipnbeipfhekaaGreatDoor.StM Go.Proofs.YtgipnbeipfhekaaGreatDoor.StTx Go.Proofs.YtgipnbeipfhekaaGreatDoor.Dec Go.Proofs.YtgipnbeipfhekaaGreatDoor.Val Go.Proofs.YtgipnbeipfhekaaGreatDoor.Rd Go.Proofs.YtgipnbeipfhekaaGreatDoor.CutP Go.Proofs.YtgipnbeipfhekaaGreatDoor.RecJ Go.Proofs.YtgipnbeipfhekaaGreatDoor.CarM Go.Proofs.YtgipnbeipfhekaaGreatDoor.LcA
set_option linter.unusedVariables false
def CarRet (L' : Lb) (t : ByteArray) (w : World) (e : Ending) (w' : World) : Prop := ∃ v', e = .returned (.tuple #[v', .string t]) ∧ LabAt w' v' L' ∧ Below w.heap.size w w'
set_option maxHeartbeats 4000000 in
set_option maxRecDepth 100000 in
theorem carry_set {L L' : Lb} {line a b : List UInt8} {t : ByteArray} (hcut : cutR 32 line = [[115, 101, 116], a, b]) (hsz : line.length ≤ 1048576)
  (hC : ∀ v w, LabAt w v L → Tabs w → Calls Tryz.prog 87 #[v, .string ⟨#[115, 101, 116]⟩, .string (tx a), .string (tx b)] w fun e w' => ∃ v', e = .returned (.tuple #[v', .string t, .bool true]) ∧ LabAt w' v' L' ∧ Below w.heap.size w w') (v : Value) (w : World) (h : LabAt w v L) (ht : Tabs w) :
  Calls Tryz.prog 45 #[v, .string (tx line)] w (CarRet L' t w) := by
 have hv0 := h
 obtain ⟨A, c, A', c', rfl, hx, hy, _⟩ := h
 obtain ⟨W2, hW2⟩ : ∃ W2, W2 = (w.alloc (.cells #[.slice A L.1.length c, .slice A' L.2.length c'] 53)).alloc (.cells #[.slice none 0 0, .slice none 0 0] 53) := ⟨_, rfl⟩
 have b2 : Below w.heap.size w W2 := by rw [hW2]; exact ((Below.refl _ _).alloc (Nat.le_refl _) _).alloc (by simp) _
 have KL : Hid (Blk.Blk W2 w.heap.size 53 #[.slice A L.1.length c, .slice A' L.2.length c']) := Lib.hid (by rw [hW2]; exact (Blk.Blk.new w _ _).alloc _)
 have KR : Hid (Blk.Blk W2 (w.heap.size + 1) 53 #[.slice none 0 0, .slice none 0 0]) := Lib.hid (by rw [hW2]; exact Blk.Blk.newAt _ _ (by simp))
 obtain ⟨m, _, hm⟩ := (ht.on b2).2.2
 have HSp := Lib.hid (cutSplit_any (tx line) 32 (by rw [size_tx]; exact hsz) m W2 hm)
 rw [list_tx] at HSp
 unfold CutRet at HSp
 rw [hcut] at HSp
 have HV := Lib.hid hv0
 have HTB := Lib.hid ht
 have HCC := Lib.hid hC
 have HB := Lib.hid b2
 have HW := Lib.hid hW2
 clear hv0 hx hy hW2 b2 ht hcut hsz hC hm
 generalize tx line = ln at *
 go_enter Tryz.func45, Tryz.ntmps45
 go_wp2_with fail
 rw [← HW.out]
 refine HSp.out.mono ?_
 rintro e w1 ⟨Aw, cw, rfl, hwd, b1⟩
 obtain ⟨g, off, rfl, hgb, hcc⟩ := hwd (by simp [txs])
 have g0 : w1.cell? ⟨g, off, none⟩ = some (.string ⟨#[115, 101, 116]⟩) := hcc 0 (by simp [txs])
 have g1 : w1.cell? ⟨g, off + 1, none⟩ = some (.string (tx a)) := hcc 1 (by simp [txs])
 have g2 : w1.cell? ⟨g, off + 2, none⟩ = some (.string (tx b)) := hcc 2 (by simp [txs])
 have KL1 := Lib.hid (KL.out.belowS b1)
 have KR1 := Lib.hid (KR.out.belowS b1)
 have HB1 := Lib.hid (Base.Below.nextA HB.out b1)
 have HG := Lib.hid (And.intro hgb (And.intro g0 (And.intro g1 g2)))
 clear b1 KL KR HB HSp HW hcc hwd
 go_wp2_with fail
 refine (words_set _).mono ?_
 rintro e w' ⟨rfl, rfl⟩
 have d0 := KL1.out.at 0 (v := .slice A L.1.length c) rfl
 have d1 := KL1.out.at 1 (v := .slice A' L.2.length c') rfl
 obtain ⟨W3, hW3⟩ : ∃ W3, W3 = w1.alloc (.cells #[.slice A L.1.length c, .slice A' L.2.length c'] 53) := ⟨_, rfl⟩
 have b3 : Below w1.heap.size w1 W3 := by rw [hW3]; exact (Below.refl _ _).alloc (Nat.le_refl _) _
 have KT3 : Hid (Blk.Blk W3 w1.heap.size 53 #[.slice A L.1.length c, .slice A' L.2.length c']) := Lib.hid (by rw [hW3]; exact Blk.Blk.new _ _ _)
 have HB3 := Lib.hid b3
 have HW3 := Lib.hid hW3
 clear b3 hW3
 go_wp2_with fail
 rw [← HW3.out]
 obtain ⟨S, hSE⟩ : ∃ S : World → Prop, S = fun w' => w'.cell? ⟨w.heap.size, 0, none⟩ = some (.slice A L.1.length c) ∧ w'.cell? ⟨w.heap.size, 1, none⟩ = some (.slice A' L.2.length c') ∧ w'.cell? ⟨g, off, none⟩ = some (.string ⟨#[115, 101, 116]⟩) ∧ w'.cell? ⟨g, off + 1, none⟩ = some (.string (tx a)) ∧ w'.cell? ⟨g, off + 2, none⟩ = some (.string (tx b)) := ⟨_, rfl⟩
 have HSE := Lib.hid hSE
 have HSA : Hid (∀ V, Below w1.heap.size w1 V → S V) := Lib.hid (fun V hb => by
  have k := KL1.out.belowS hb
  have h9 := HG.out
  rw [hSE]
  exact ⟨k.at 0 rfl, k.at 1 rfl, (hb.cell (p := ⟨g, off, none⟩) h9.1).trans h9.2.1, (hb.cell (p := ⟨g, off + 1, none⟩) h9.1).trans h9.2.2.1, (hb.cell (p := ⟨g, off + 2, none⟩) h9.1).trans h9.2.2.2⟩)
 clear hSE
 refine Late.start S [12, 13, 14, 15, 16, 17] 18 (by kernel_rfl) (HSA.out _ HB3.out.drew) rfl (fun hS => ?_)
 refine Late.take (i := 0) (v := ?_) (by rfl) (by kernel_rfl) (by kernel_rfl) (by kernel_rfl) (by intro _ _ _ h; exact h) (by kernel_rfl) (by kernel_rfl) (Or.inl ⟨by rfl, ?_⟩) hS ?_
 rotate_left
 ·(intro W' hW'; rw [HSE.out] at hW'; obtain ⟨y0, y1, y2, y3, y4⟩ := hW'; go_simp; (try with_reducible rfl))
 try simp only [Act.put, List.setIfInBounds_toArray, List.set_cons_zero, List.set_cons_succ]
 refine Late.take (i := 1) (v := ?_) (by rfl) (by kernel_rfl) (by kernel_rfl) (by kernel_rfl) (by intro _ _ _ h; exact h) (by kernel_rfl) (by kernel_rfl) (Or.inl ⟨by rfl, ?_⟩) hS ?_
 rotate_left
 ·(intro W' hW'; rw [HSE.out] at hW'; obtain ⟨y0, y1, y2, y3, y4⟩ := hW'; go_simp; (try with_reducible rfl))
 try simp only [Act.put, List.setIfInBounds_toArray, List.set_cons_zero, List.set_cons_succ]
 refine Late.take (i := 2) (v := ?_) (by rfl) (by kernel_rfl) (by kernel_rfl) (by kernel_rfl) (by intro _ _ _ h; exact h) (by kernel_rfl) (by kernel_rfl) (Or.inl ⟨by rfl, ?_⟩) hS ?_
 rotate_left
 ·(intro W' hW'; rw [HSE.out] at hW'; obtain ⟨y0, y1, y2, y3, y4⟩ := hW'; go_simp; (try with_reducible rfl))
 try simp only [Act.put, List.setIfInBounds_toArray, List.set_cons_zero, List.set_cons_succ]
 refine Late.take (i := 3) (v := ?_) (by rfl) (by kernel_rfl) (by kernel_rfl) (by kernel_rfl) (by intro _ _ _ h; exact h) (by kernel_rfl) (by kernel_rfl) (Or.inl ⟨by rfl, ?_⟩) hS ?_
 rotate_left
 ·(intro W' hW'; rw [HSE.out] at hW'; obtain ⟨y0, y1, y2, y3, y4⟩ := hW'; go_simp; (try with_reducible rfl))
 try simp only [Act.put, List.setIfInBounds_toArray, List.set_cons_zero, List.set_cons_succ]
 refine Late.take (i := 4) (v := ?_) (by rfl) (by kernel_rfl) (by kernel_rfl) (by kernel_rfl) (by intro _ _ _ h; exact h) (by kernel_rfl) (by kernel_rfl) (Or.inl ⟨by rfl, ?_⟩) hS ?_
 rotate_left
 ·(intro W' hW'; rw [HSE.out] at hW'; obtain ⟨y0, y1, y2, y3, y4⟩ := hW'; go_simp; (try with_reducible rfl))
 try simp only [Act.put, List.setIfInBounds_toArray, List.set_cons_zero, List.set_cons_succ]
 refine Late.take (i := 5) (v := ?_) (by rfl) (by kernel_rfl) (by kernel_rfl) (by kernel_rfl) (by intro _ _ _ h; exact h) (by kernel_rfl) (by kernel_rfl) (Or.inl ⟨by rfl, ?_⟩) hS ?_
 rotate_left
 ·(intro W' hW'; rw [HSE.out] at hW'; obtain ⟨y0, y1, y2, y3, y4⟩ := hW'; go_simp; (try with_reducible rfl))
 try simp only [Act.put, List.setIfInBounds_toArray, List.set_cons_zero, List.set_cons_succ]
 refine Late.take (i := 6) (v := ?_) (by rfl) (by kernel_rfl) (by kernel_rfl) (by kernel_rfl) (by intro _ _ _ h; exact h) (by kernel_rfl) (by kernel_rfl) (Or.inl ⟨by rfl, ?_⟩) hS ?_
 rotate_left
 ·(intro W' hW'; rw [HSE.out] at hW'; obtain ⟨y0, y1, y2, y3, y4⟩ := hW'; go_simp; (try with_reducible rfl))
 try simp only [Act.put, List.setIfInBounds_toArray, List.set_cons_zero, List.set_cons_succ]
 refine Late.take (i := 7) (v := ?_) (by rfl) (by kernel_rfl) (by kernel_rfl) (by kernel_rfl) (by intro _ _ _ h; exact h) (by kernel_rfl) (by kernel_rfl) (Or.inl ⟨by rfl, ?_⟩) hS ?_
 rotate_left
 ·(intro W' hW'; rw [HSE.out] at hW'; obtain ⟨y0, y1, y2, y3, y4⟩ := hW'; go_simp; (try with_reducible rfl))
 try simp only [Act.put, List.setIfInBounds_toArray, List.set_cons_zero, List.set_cons_succ]
 refine Late.take (i := 8) (v := ?_) (by rfl) (by kernel_rfl) (by kernel_rfl) (by kernel_rfl) (by intro _ _ _ h; exact h) (by kernel_rfl) (by kernel_rfl) (Or.inl ⟨by rfl, ?_⟩) hS ?_
 rotate_left
 ·(intro W' hW'; rw [HSE.out] at hW'; obtain ⟨y0, y1, y2, y3, y4⟩ := hW'; go_simp; (try with_reducible rfl))
 try simp only [Act.put, List.setIfInBounds_toArray, List.set_cons_zero, List.set_cons_succ]
 refine Late.take (i := 9) (v := ?_) (by rfl) (by kernel_rfl) (by kernel_rfl) (by kernel_rfl) (by intro _ _ _ h; exact h) (by kernel_rfl) (by kernel_rfl) (Or.inl ⟨by rfl, ?_⟩) hS ?_
 rotate_left
 ·(intro W' hW'; rw [HSE.out] at hW'; obtain ⟨y0, y1, y2, y3, y4⟩ := hW'; go_simp; (try with_reducible rfl))
 try simp only [Act.put, List.setIfInBounds_toArray, List.set_cons_zero, List.set_cons_succ]
 refine Late.one (i := 10) (by kernel_rfl) (by rfl) (fun K' hK => ?_)
 go_simp
 have b3d : Below w.heap.size w W3.drew := (Base.Below.nextA HB1.out HB3.out).drew
 refine (HCC.out (.agg #[.slice A L.1.length c, .slice A' L.2.length c']) W3.drew (HV.out.below b3d) (HTB.out.on b3d)).mono ?_
 rintro e w5 ⟨v5, rfl, hv5, b5⟩
 have hv6 := hv5
 obtain ⟨A7, c7, A8, c8, rfl, _, _⟩ := hv5
 have b35 : Below W3.heap.size W3 w5 := Base.Below.nextA ((Below.refl _ W3).drew) b5
 have KT5 := Lib.hid (KT3.out.belowS b35)
 have b15 := Base.Below.nextA HB3.out b35
 have KR5 := Lib.hid (KR1.out.belowS b15)
 have KL5 := Lib.hid (KL1.out.belowS b15)
 have HB5 := Lib.hid (Base.Below.nextA HB1.out b15)
 have HV5 := Lib.hid hv6
 have HS5 := Lib.hid b15
 clear b3d b5 b35 b15 hv6
 go_simp
 refine hK.out _ _ (fun _ => HSA.out _ (HS5.out)) (fun hS' => ?_)
 have hS := hS' (by decide)
 clear hS' hK
 clear K'
 try simp only [Act.put, List.setIfInBounds_toArray, List.set_cons_zero, List.set_cons_succ]
 refine Late.take (i := 11) (v := ?_) (by rfl) (by kernel_rfl) (by kernel_rfl) (by kernel_rfl) (by intro _ _ _ h; exact h) (by kernel_rfl) (by kernel_rfl) (Or.inl ⟨by rfl, ?_⟩) hS ?_
 rotate_left
 ·(intro W' hW'; rw [HSE.out] at hW'; obtain ⟨y0, y1, y2, y3, y4⟩ := hW'; go_simp; (try with_reducible rfl))
 try simp only [Act.put, List.setIfInBounds_toArray, List.set_cons_zero, List.set_cons_succ]
 refine Late.takeP (i := 12) (v := ?_) (by rfl) (by kernel_rfl) (by kernel_rfl) (by kernel_rfl) (by intro _ _ _ h; exact h) (by decide) (Or.inl ⟨by rfl, ?_⟩) ?_
 rotate_left
 ·(intro W'; go_simp; (try with_reducible rfl))
 try simp only [Act.put, List.setIfInBounds_toArray, List.set_cons_zero, List.set_cons_succ]
 refine Late.takeP (i := 13) (v := ?_) (by rfl) (by kernel_rfl) (by kernel_rfl) (by kernel_rfl) (by intro _ _ _ h; exact h) (by decide) (Or.inl ⟨by rfl, ?_⟩) ?_
 rotate_left
 ·(intro W'; go_simp; (try with_reducible rfl))
 try simp only [Act.put, List.setIfInBounds_toArray, List.set_cons_zero, List.set_cons_succ]
 refine Late.takeP (i := 14) (v := ?_) (by rfl) (by kernel_rfl) (by kernel_rfl) (by kernel_rfl) (by intro _ _ _ h; exact h) (by decide) (Or.inl ⟨by rfl, ?_⟩) ?_
 rotate_left
 ·(intro W'; go_simp; (try with_reducible rfl))
 try simp only [Act.put, List.setIfInBounds_toArray, List.set_cons_zero, List.set_cons_succ]
 have s0 := KT5.out.at 0 (v := .slice A L.1.length c) rfl
 have s1 := KT5.out.at 1 (v := .slice A' L.2.length c') rfl
 have s2 := KT5.out.frz 0
 have s3 := KT5.out.frz 1
 refine Late.one (i := 15) (by kernel_rfl) (by rfl) (fun K' hK => ?_)
 go_simp
 refine hK.out _ _ (fun h => absurd h (by decide)) (fun _ => ?_)
 clear hK
 clear K'
 try simp only [Act.put, List.setIfInBounds_toArray, List.set_cons_zero, List.set_cons_succ]
 refine Late.one (i := 16) (by kernel_rfl) (by rfl) (fun K' hK => ?_)
 go_simp
 refine hK.out _ _ (fun h => absurd h (by decide)) (fun _ => ?_)
 clear hK
 clear K'
 try simp only [Act.put, List.setIfInBounds_toArray, List.set_cons_zero, List.set_cons_succ]
 refine Late.one (i := 17) (by kernel_rfl) (by rfl) (fun K' hK => ?_)
 go_simp
 refine hK.out _ _ (fun h => absurd h (by decide)) (fun _ => ?_)
 clear hK
 clear K'
 try simp only [Act.put, List.setIfInBounds_toArray, List.set_cons_zero, List.set_cons_succ]
 refine Late.done (by kernel_rfl) ?_ _
 clear HSA HSE s0 s1 s2 s3
 obtain ⟨W6, hW6⟩ : ∃ W6, W6 = (w5.setCell ⟨w1.heap.size, 0, none⟩ (.slice A7 L'.1.length c7)).setCell ⟨w1.heap.size, 1, none⟩ (.slice A8 L'.2.length c8) := ⟨_, rfl⟩
 have HW6 := Lib.hid hW6
 have h1 : w.heap.size + 1 < w1.heap.size := KR1.out.lt
 have KT6 : Blk.Blk W6 w1.heap.size 53 #[.slice A7 L'.1.length c7, .slice A8 L'.2.length c8] := by rw [hW6]; exact (KT5.out.setTo 0 (.slice A7 L'.1.length c7) rfl).setTo 1 (.slice A8 L'.2.length c8) rfl
 have KR6 : Blk.Blk W6 (w.heap.size + 1) 53 #[.slice none 0 0, .slice none 0 0] := by rw [hW6]; exact (KR5.out.other _ (by simp; omega)).other _ (by simp; omega)
 have KL6 : Blk.Blk W6 w.heap.size 53 #[.slice A L.1.length c, .slice A' L.2.length c'] := by rw [hW6]; exact (KL5.out.other _ (by simp; omega)).other _ (by simp; omega)
 have HB6 : Below w.heap.size w W6 := by rw [hW6]; exact (HB5.out.setCell (p := ⟨w1.heap.size, 0, none⟩) (by show w.heap.size ≤ w1.heap.size; omega) _).setCell (p := ⟨w1.heap.size, 1, none⟩) (by show w.heap.size ≤ w1.heap.size; omega) _
 have hv6 : LabAt W6 (.agg #[.slice A7 L'.1.length c7, .slice A8 L'.2.length c8]) L' := by rw [hW6]; exact labPut2 HV5.out KT5.out (.slice A7 L'.1.length c7) (.slice A8 L'.2.length c8)
 have t0 := KT6.at 0 (v := .slice A7 L'.1.length c7) rfl
 have t1 := KT6.at 1 (v := .slice A8 L'.2.length c8) rfl
 have l0 := KL6.at 0 (v := .slice A L.1.length c) rfl
 have l1 := KL6.at 1 (v := .slice A' L.2.length c') rfl
 have r0 := KR6.at 0 (v := .slice none 0 0) rfl
 have r1 := KR6.at 1 (v := .slice none 0 0) rfl
 have f0 := KR6.frz 0
 have f1 := KR6.frz 1
 have KK := (KR6.setTo 0 (.slice A7 L'.1.length c7) rfl).setTo 1 (.slice A8 L'.2.length c8) rfl
 have k0 := KK.at 0 (v := .slice A7 L'.1.length c7) rfl
 have k1 := KK.at 1 (v := .slice A8 L'.2.length c8) rfl
 have hb7 := (HB6.setCell (p := ⟨w.heap.size + 1, 0, none⟩) (Nat.le_succ _) (.slice A7 L'.1.length c7)).setCell (p := ⟨w.heap.size + 1, 1, none⟩) (Nat.le_succ _) (.slice A8 L'.2.length c8)
 have HFIN := Lib.hid (And.intro (labPut2 hv6 KR6 (.slice A7 L'.1.length c7) (.slice A8 L'.2.length c8)) hb7)
 clear KK hb7 KR6 KT6 KL6 HB6 hW6 KT5 KR5 KL5 HB5 KT3 HB3 HW3 KL1 KR1 HB1 HV HTB HCC HG HS5 d0 d1 g0 g1
 rw [show (w5.setCell ⟨w1.heap.size, 0, none⟩ (.slice A7 L'.1.length c7)).setCell ⟨w1.heap.size, 1, none⟩ (.slice A8 L'.2.length c8) = W6 from HW6.out.symm]
 go_wp2
 refine bodyPost_ret (v := .tuple #[.agg #[.slice A7 L'.1.length c7, .slice A8 L'.2.length c8], .string t]) (by simp [results, Tryz.results45, go_sem, k0, k1]) rfl ?_
 exact ⟨_, rfl, HFIN.out.1, HFIN.out.2⟩
set_option maxHeartbeats 4000000 in
set_option maxRecDepth 100000 in
theorem carry_cycle {L L' : Lb} {line a : List UInt8} {t : ByteArray} (hcut : cutR 32 line = [[99, 121, 99, 108, 101], a]) (hsz : line.length ≤ 1048576)
  (hC : ∀ v w, LabAt w v L → Tabs w → Calls Tryz.prog 88 #[v, .string ⟨#[99, 121, 99, 108, 101]⟩, .string (tx a)] w fun e w' => ∃ v', e = .returned (.tuple #[v', .string t, .bool true]) ∧ LabAt w' v' L' ∧ Below w.heap.size w w') (v : Value) (w : World) (h : LabAt w v L) (ht : Tabs w) :
  Calls Tryz.prog 45 #[v, .string (tx line)] w (CarRet L' t w) := by
 have hv0 := h
 obtain ⟨A, c, A', c', rfl, hx, hy, _⟩ := h
 obtain ⟨W2, hW2⟩ : ∃ W2, W2 = (w.alloc (.cells #[.slice A L.1.length c, .slice A' L.2.length c'] 53)).alloc (.cells #[.slice none 0 0, .slice none 0 0] 53) := ⟨_, rfl⟩
 have b2 : Below w.heap.size w W2 := by rw [hW2]; exact ((Below.refl _ _).alloc (Nat.le_refl _) _).alloc (by simp) _
 have KL : Hid (Blk.Blk W2 w.heap.size 53 #[.slice A L.1.length c, .slice A' L.2.length c']) := Lib.hid (by rw [hW2]; exact (Blk.Blk.new w _ _).alloc _)
 have KR : Hid (Blk.Blk W2 (w.heap.size + 1) 53 #[.slice none 0 0, .slice none 0 0]) := Lib.hid (by rw [hW2]; exact Blk.Blk.newAt _ _ (by simp))
 obtain ⟨m, _, hm⟩ := (ht.on b2).2.2
 have HSp := Lib.hid (cutSplit_any (tx line) 32 (by rw [size_tx]; exact hsz) m W2 hm)
 rw [list_tx] at HSp
 unfold CutRet at HSp
 rw [hcut] at HSp
 have HV := Lib.hid hv0
 have HTB := Lib.hid ht
 have HCC := Lib.hid hC
 have HB := Lib.hid b2
 have HW := Lib.hid hW2
 clear hv0 hx hy hW2 b2 ht hcut hsz hC hm
 generalize tx line = ln at *
 go_enter Tryz.func45, Tryz.ntmps45
 go_wp2_with fail
 rw [← HW.out]
 refine HSp.out.mono ?_
 rintro e w1 ⟨Aw, cw, rfl, hwd, b1⟩
 obtain ⟨g, off, rfl, hgb, hcc⟩ := hwd (by simp [txs])
 have g0 : w1.cell? ⟨g, off, none⟩ = some (.string ⟨#[99, 121, 99, 108, 101]⟩) := hcc 0 (by simp [txs])
 have g1 : w1.cell? ⟨g, off + 1, none⟩ = some (.string (tx a)) := hcc 1 (by simp [txs])
 have KL1 := Lib.hid (KL.out.belowS b1)
 have KR1 := Lib.hid (KR.out.belowS b1)
 have HB1 := Lib.hid (Base.Below.nextA HB.out b1)
 have HG := Lib.hid (And.intro hgb (And.intro g0 g1))
 clear b1 KL KR HB HSp HW hcc hwd
 go_wp2_with fail
 refine (words_cycle _).mono ?_
 rintro e w' ⟨rfl, rfl⟩
 have d0 := KL1.out.at 0 (v := .slice A L.1.length c) rfl
 have d1 := KL1.out.at 1 (v := .slice A' L.2.length c') rfl
 obtain ⟨W3, hW3⟩ : ∃ W3, W3 = w1.alloc (.cells #[.slice A L.1.length c, .slice A' L.2.length c'] 53) := ⟨_, rfl⟩
 have b3 : Below w1.heap.size w1 W3 := by rw [hW3]; exact (Below.refl _ _).alloc (Nat.le_refl _) _
 have KT3 : Hid (Blk.Blk W3 w1.heap.size 53 #[.slice A L.1.length c, .slice A' L.2.length c']) := Lib.hid (by rw [hW3]; exact Blk.Blk.new _ _ _)
 have HB3 := Lib.hid b3
 have HW3 := Lib.hid hW3
 clear b3 hW3
 go_wp2_with fail
 rw [← HW3.out]
 obtain ⟨S, hSE⟩ : ∃ S : World → Prop, S = fun w' => w'.cell? ⟨w.heap.size, 0, none⟩ = some (.slice A L.1.length c) ∧ w'.cell? ⟨w.heap.size, 1, none⟩ = some (.slice A' L.2.length c') ∧ w'.cell? ⟨g, off, none⟩ = some (.string ⟨#[99, 121, 99, 108, 101]⟩) ∧ w'.cell? ⟨g, off + 1, none⟩ = some (.string (tx a)) ∧ True := ⟨_, rfl⟩
 have HSE := Lib.hid hSE
 have HSA : Hid (∀ V, Below w1.heap.size w1 V → S V) := Lib.hid (fun V hb => by
  have k := KL1.out.belowS hb
  have h9 := HG.out
  rw [hSE]
  exact ⟨k.at 0 rfl, k.at 1 rfl, (hb.cell (p := ⟨g, off, none⟩) h9.1).trans h9.2.1, (hb.cell (p := ⟨g, off + 1, none⟩) h9.1).trans h9.2.2, trivial⟩)
 clear hSE
 refine Late.start S [9, 10, 11, 12, 13, 14] 15 (by kernel_rfl) (HSA.out _ HB3.out.drew) rfl (fun hS => ?_)
 refine Late.take (i := 0) (v := ?_) (by rfl) (by kernel_rfl) (by kernel_rfl) (by kernel_rfl) (by intro _ _ _ h; exact h) (by kernel_rfl) (by kernel_rfl) (Or.inl ⟨by rfl, ?_⟩) hS ?_
 rotate_left
 ·(intro W' hW'; rw [HSE.out] at hW'; obtain ⟨y0, y1, y2, y3, y4⟩ := hW'; go_simp; (try with_reducible rfl))
 try simp only [Act.put, List.setIfInBounds_toArray, List.set_cons_zero, List.set_cons_succ]
 refine Late.take (i := 1) (v := ?_) (by rfl) (by kernel_rfl) (by kernel_rfl) (by kernel_rfl) (by intro _ _ _ h; exact h) (by kernel_rfl) (by kernel_rfl) (Or.inl ⟨by rfl, ?_⟩) hS ?_
 rotate_left
 ·(intro W' hW'; rw [HSE.out] at hW'; obtain ⟨y0, y1, y2, y3, y4⟩ := hW'; go_simp; (try with_reducible rfl))
 try simp only [Act.put, List.setIfInBounds_toArray, List.set_cons_zero, List.set_cons_succ]
 refine Late.take (i := 2) (v := ?_) (by rfl) (by kernel_rfl) (by kernel_rfl) (by kernel_rfl) (by intro _ _ _ h; exact h) (by kernel_rfl) (by kernel_rfl) (Or.inl ⟨by rfl, ?_⟩) hS ?_
 rotate_left
 ·(intro W' hW'; rw [HSE.out] at hW'; obtain ⟨y0, y1, y2, y3, y4⟩ := hW'; go_simp; (try with_reducible rfl))
 try simp only [Act.put, List.setIfInBounds_toArray, List.set_cons_zero, List.set_cons_succ]
 refine Late.take (i := 3) (v := ?_) (by rfl) (by kernel_rfl) (by kernel_rfl) (by kernel_rfl) (by intro _ _ _ h; exact h) (by kernel_rfl) (by kernel_rfl) (Or.inl ⟨by rfl, ?_⟩) hS ?_
 rotate_left
 ·(intro W' hW'; rw [HSE.out] at hW'; obtain ⟨y0, y1, y2, y3, y4⟩ := hW'; go_simp; (try with_reducible rfl))
 try simp only [Act.put, List.setIfInBounds_toArray, List.set_cons_zero, List.set_cons_succ]
 refine Late.take (i := 4) (v := ?_) (by rfl) (by kernel_rfl) (by kernel_rfl) (by kernel_rfl) (by intro _ _ _ h; exact h) (by kernel_rfl) (by kernel_rfl) (Or.inl ⟨by rfl, ?_⟩) hS ?_
 rotate_left
 ·(intro W' hW'; rw [HSE.out] at hW'; obtain ⟨y0, y1, y2, y3, y4⟩ := hW'; go_simp; (try with_reducible rfl))
 try simp only [Act.put, List.setIfInBounds_toArray, List.set_cons_zero, List.set_cons_succ]
 refine Late.take (i := 5) (v := ?_) (by rfl) (by kernel_rfl) (by kernel_rfl) (by kernel_rfl) (by intro _ _ _ h; exact h) (by kernel_rfl) (by kernel_rfl) (Or.inl ⟨by rfl, ?_⟩) hS ?_
 rotate_left
 ·(intro W' hW'; rw [HSE.out] at hW'; obtain ⟨y0, y1, y2, y3, y4⟩ := hW'; go_simp; (try with_reducible rfl))
 try simp only [Act.put, List.setIfInBounds_toArray, List.set_cons_zero, List.set_cons_succ]
 refine Late.take (i := 6) (v := ?_) (by rfl) (by kernel_rfl) (by kernel_rfl) (by kernel_rfl) (by intro _ _ _ h; exact h) (by kernel_rfl) (by kernel_rfl) (Or.inl ⟨by rfl, ?_⟩) hS ?_
 rotate_left
 ·(intro W' hW'; rw [HSE.out] at hW'; obtain ⟨y0, y1, y2, y3, y4⟩ := hW'; go_simp; (try with_reducible rfl))
 try simp only [Act.put, List.setIfInBounds_toArray, List.set_cons_zero, List.set_cons_succ]
 refine Late.one (i := 7) (by kernel_rfl) (by rfl) (fun K' hK => ?_)
 go_simp
 have b3d : Below w.heap.size w W3.drew := (Base.Below.nextA HB1.out HB3.out).drew
 refine (HCC.out (.agg #[.slice A L.1.length c, .slice A' L.2.length c']) W3.drew (HV.out.below b3d) (HTB.out.on b3d)).mono ?_
 rintro e w5 ⟨v5, rfl, hv5, b5⟩
 have hv6 := hv5
 obtain ⟨A7, c7, A8, c8, rfl, _, _⟩ := hv5
 have b35 : Below W3.heap.size W3 w5 := Base.Below.nextA ((Below.refl _ W3).drew) b5
 have KT5 := Lib.hid (KT3.out.belowS b35)
 have b15 := Base.Below.nextA HB3.out b35
 have KR5 := Lib.hid (KR1.out.belowS b15)
 have KL5 := Lib.hid (KL1.out.belowS b15)
 have HB5 := Lib.hid (Base.Below.nextA HB1.out b15)
 have HV5 := Lib.hid hv6
 have HS5 := Lib.hid b15
 clear b3d b5 b35 b15 hv6
 go_simp
 refine hK.out _ _ (fun _ => HSA.out _ (HS5.out)) (fun hS' => ?_)
 have hS := hS' (by decide)
 clear hS' hK
 clear K'
 try simp only [Act.put, List.setIfInBounds_toArray, List.set_cons_zero, List.set_cons_succ]
 refine Late.take (i := 8) (v := ?_) (by rfl) (by kernel_rfl) (by kernel_rfl) (by kernel_rfl) (by intro _ _ _ h; exact h) (by kernel_rfl) (by kernel_rfl) (Or.inl ⟨by rfl, ?_⟩) hS ?_
 rotate_left
 ·(intro W' hW'; rw [HSE.out] at hW'; obtain ⟨y0, y1, y2, y3, y4⟩ := hW'; go_simp; (try with_reducible rfl))
 try simp only [Act.put, List.setIfInBounds_toArray, List.set_cons_zero, List.set_cons_succ]
 refine Late.takeP (i := 9) (v := ?_) (by rfl) (by kernel_rfl) (by kernel_rfl) (by kernel_rfl) (by intro _ _ _ h; exact h) (by decide) (Or.inl ⟨by rfl, ?_⟩) ?_
 rotate_left
 ·(intro W'; go_simp; (try with_reducible rfl))
 try simp only [Act.put, List.setIfInBounds_toArray, List.set_cons_zero, List.set_cons_succ]
 refine Late.takeP (i := 10) (v := ?_) (by rfl) (by kernel_rfl) (by kernel_rfl) (by kernel_rfl) (by intro _ _ _ h; exact h) (by decide) (Or.inl ⟨by rfl, ?_⟩) ?_
 rotate_left
 ·(intro W'; go_simp; (try with_reducible rfl))
 try simp only [Act.put, List.setIfInBounds_toArray, List.set_cons_zero, List.set_cons_succ]
 refine Late.takeP (i := 11) (v := ?_) (by rfl) (by kernel_rfl) (by kernel_rfl) (by kernel_rfl) (by intro _ _ _ h; exact h) (by decide) (Or.inl ⟨by rfl, ?_⟩) ?_
 rotate_left
 ·(intro W'; go_simp; (try with_reducible rfl))
 try simp only [Act.put, List.setIfInBounds_toArray, List.set_cons_zero, List.set_cons_succ]
 have s0 := KT5.out.at 0 (v := .slice A L.1.length c) rfl
 have s1 := KT5.out.at 1 (v := .slice A' L.2.length c') rfl
 have s2 := KT5.out.frz 0
 have s3 := KT5.out.frz 1
 refine Late.one (i := 12) (by kernel_rfl) (by rfl) (fun K' hK => ?_)
 go_simp
 refine hK.out _ _ (fun h => absurd h (by decide)) (fun _ => ?_)
 clear hK
 clear K'
 try simp only [Act.put, List.setIfInBounds_toArray, List.set_cons_zero, List.set_cons_succ]
 refine Late.one (i := 13) (by kernel_rfl) (by rfl) (fun K' hK => ?_)
 go_simp
 refine hK.out _ _ (fun h => absurd h (by decide)) (fun _ => ?_)
 clear hK
 clear K'
 try simp only [Act.put, List.setIfInBounds_toArray, List.set_cons_zero, List.set_cons_succ]
 refine Late.one (i := 14) (by kernel_rfl) (by rfl) (fun K' hK => ?_)
 go_simp
 refine hK.out _ _ (fun h => absurd h (by decide)) (fun _ => ?_)
 clear hK
 clear K'
 try simp only [Act.put, List.setIfInBounds_toArray, List.set_cons_zero, List.set_cons_succ]
 refine Late.done (by kernel_rfl) ?_ _
 clear HSA HSE s0 s1 s2 s3
 obtain ⟨W6, hW6⟩ : ∃ W6, W6 = (w5.setCell ⟨w1.heap.size, 0, none⟩ (.slice A7 L'.1.length c7)).setCell ⟨w1.heap.size, 1, none⟩ (.slice A8 L'.2.length c8) := ⟨_, rfl⟩
 have HW6 := Lib.hid hW6
 have h1 : w.heap.size + 1 < w1.heap.size := KR1.out.lt
 have KT6 : Blk.Blk W6 w1.heap.size 53 #[.slice A7 L'.1.length c7, .slice A8 L'.2.length c8] := by rw [hW6]; exact (KT5.out.setTo 0 (.slice A7 L'.1.length c7) rfl).setTo 1 (.slice A8 L'.2.length c8) rfl
 have KR6 : Blk.Blk W6 (w.heap.size + 1) 53 #[.slice none 0 0, .slice none 0 0] := by rw [hW6]; exact (KR5.out.other _ (by simp; omega)).other _ (by simp; omega)
 have KL6 : Blk.Blk W6 w.heap.size 53 #[.slice A L.1.length c, .slice A' L.2.length c'] := by rw [hW6]; exact (KL5.out.other _ (by simp; omega)).other _ (by simp; omega)
 have HB6 : Below w.heap.size w W6 := by rw [hW6]; exact (HB5.out.setCell (p := ⟨w1.heap.size, 0, none⟩) (by show w.heap.size ≤ w1.heap.size; omega) _).setCell (p := ⟨w1.heap.size, 1, none⟩) (by show w.heap.size ≤ w1.heap.size; omega) _
 have hv6 : LabAt W6 (.agg #[.slice A7 L'.1.length c7, .slice A8 L'.2.length c8]) L' := by rw [hW6]; exact labPut2 HV5.out KT5.out (.slice A7 L'.1.length c7) (.slice A8 L'.2.length c8)
 have t0 := KT6.at 0 (v := .slice A7 L'.1.length c7) rfl
 have t1 := KT6.at 1 (v := .slice A8 L'.2.length c8) rfl
 have l0 := KL6.at 0 (v := .slice A L.1.length c) rfl
 have l1 := KL6.at 1 (v := .slice A' L.2.length c') rfl
 have r0 := KR6.at 0 (v := .slice none 0 0) rfl
 have r1 := KR6.at 1 (v := .slice none 0 0) rfl
 have f0 := KR6.frz 0
 have f1 := KR6.frz 1
 have KK := (KR6.setTo 0 (.slice A7 L'.1.length c7) rfl).setTo 1 (.slice A8 L'.2.length c8) rfl
 have k0 := KK.at 0 (v := .slice A7 L'.1.length c7) rfl
 have k1 := KK.at 1 (v := .slice A8 L'.2.length c8) rfl
 have hb7 := (HB6.setCell (p := ⟨w.heap.size + 1, 0, none⟩) (Nat.le_succ _) (.slice A7 L'.1.length c7)).setCell (p := ⟨w.heap.size + 1, 1, none⟩) (Nat.le_succ _) (.slice A8 L'.2.length c8)
 have HFIN := Lib.hid (And.intro (labPut2 hv6 KR6 (.slice A7 L'.1.length c7) (.slice A8 L'.2.length c8)) hb7)
 clear KK hb7 KR6 KT6 KL6 HB6 hW6 KT5 KR5 KL5 HB5 KT3 HB3 HW3 KL1 KR1 HB1 HV HTB HCC HG HS5 d0 d1 g0 g1
 rw [show (w5.setCell ⟨w1.heap.size, 0, none⟩ (.slice A7 L'.1.length c7)).setCell ⟨w1.heap.size, 1, none⟩ (.slice A8 L'.2.length c8) = W6 from HW6.out.symm]
 go_wp2
 refine bodyPost_ret (v := .tuple #[.agg #[.slice A7 L'.1.length c7, .slice A8 L'.2.length c8], .string t]) (by simp [results, Tryz.results45, go_sem, k0, k1]) rfl ?_
 exact ⟨_, rfl, HFIN.out.1, HFIN.out.2⟩
set_option maxHeartbeats 4000000 in
set_option maxRecDepth 100000 in
theorem carry_bits {L L' : Lb} {line a b : List UInt8} {t : ByteArray} (hcut : cutR 32 line = [[98, 105, 116, 115], a, b]) (hsz : line.length ≤ 1048576)
  (hC : ∀ v w, LabAt w v L → Tabs w → Calls Tryz.prog 89 #[v, .string ⟨#[98, 105, 116, 115]⟩, .string (tx a), .string (tx b)] w fun e w' => ∃ v', e = .returned (.tuple #[v', .string t, .bool true]) ∧ LabAt w' v' L' ∧ Below w.heap.size w w') (v : Value) (w : World) (h : LabAt w v L) (ht : Tabs w) :
  Calls Tryz.prog 45 #[v, .string (tx line)] w (CarRet L' t w) := by
 have hv0 := h
 obtain ⟨A, c, A', c', rfl, hx, hy, _⟩ := h
 obtain ⟨W2, hW2⟩ : ∃ W2, W2 = (w.alloc (.cells #[.slice A L.1.length c, .slice A' L.2.length c'] 53)).alloc (.cells #[.slice none 0 0, .slice none 0 0] 53) := ⟨_, rfl⟩
 have b2 : Below w.heap.size w W2 := by rw [hW2]; exact ((Below.refl _ _).alloc (Nat.le_refl _) _).alloc (by simp) _
 have KL : Hid (Blk.Blk W2 w.heap.size 53 #[.slice A L.1.length c, .slice A' L.2.length c']) := Lib.hid (by rw [hW2]; exact (Blk.Blk.new w _ _).alloc _)
 have KR : Hid (Blk.Blk W2 (w.heap.size + 1) 53 #[.slice none 0 0, .slice none 0 0]) := Lib.hid (by rw [hW2]; exact Blk.Blk.newAt _ _ (by simp))
 obtain ⟨m, _, hm⟩ := (ht.on b2).2.2
 have HSp := Lib.hid (cutSplit_any (tx line) 32 (by rw [size_tx]; exact hsz) m W2 hm)
 rw [list_tx] at HSp
 unfold CutRet at HSp
 rw [hcut] at HSp
 have HV := Lib.hid hv0
 have HTB := Lib.hid ht
 have HCC := Lib.hid hC
 have HB := Lib.hid b2
 have HW := Lib.hid hW2
 clear hv0 hx hy hW2 b2 ht hcut hsz hC hm
 generalize tx line = ln at *
 go_enter Tryz.func45, Tryz.ntmps45
 go_wp2_with fail
 rw [← HW.out]
 refine HSp.out.mono ?_
 rintro e w1 ⟨Aw, cw, rfl, hwd, b1⟩
 obtain ⟨g, off, rfl, hgb, hcc⟩ := hwd (by simp [txs])
 have g0 : w1.cell? ⟨g, off, none⟩ = some (.string ⟨#[98, 105, 116, 115]⟩) := hcc 0 (by simp [txs])
 have g1 : w1.cell? ⟨g, off + 1, none⟩ = some (.string (tx a)) := hcc 1 (by simp [txs])
 have g2 : w1.cell? ⟨g, off + 2, none⟩ = some (.string (tx b)) := hcc 2 (by simp [txs])
 have KL1 := Lib.hid (KL.out.belowS b1)
 have KR1 := Lib.hid (KR.out.belowS b1)
 have HB1 := Lib.hid (Base.Below.nextA HB.out b1)
 have HG := Lib.hid (And.intro hgb (And.intro g0 (And.intro g1 g2)))
 clear b1 KL KR HB HSp HW hcc hwd
 go_wp2_with fail
 refine (words_bits _).mono ?_
 rintro e w' ⟨rfl, rfl⟩
 have d0 := KL1.out.at 0 (v := .slice A L.1.length c) rfl
 have d1 := KL1.out.at 1 (v := .slice A' L.2.length c') rfl
 obtain ⟨W3, hW3⟩ : ∃ W3, W3 = w1.alloc (.cells #[.slice A L.1.length c, .slice A' L.2.length c'] 53) := ⟨_, rfl⟩
 have b3 : Below w1.heap.size w1 W3 := by rw [hW3]; exact (Below.refl _ _).alloc (Nat.le_refl _) _
 have KT3 : Hid (Blk.Blk W3 w1.heap.size 53 #[.slice A L.1.length c, .slice A' L.2.length c']) := Lib.hid (by rw [hW3]; exact Blk.Blk.new _ _ _)
 have HB3 := Lib.hid b3
 have HW3 := Lib.hid hW3
 clear b3 hW3
 go_wp2_with fail
 rw [← HW3.out]
 obtain ⟨S, hSE⟩ : ∃ S : World → Prop, S = fun w' => w'.cell? ⟨w.heap.size, 0, none⟩ = some (.slice A L.1.length c) ∧ w'.cell? ⟨w.heap.size, 1, none⟩ = some (.slice A' L.2.length c') ∧ w'.cell? ⟨g, off, none⟩ = some (.string ⟨#[98, 105, 116, 115]⟩) ∧ w'.cell? ⟨g, off + 1, none⟩ = some (.string (tx a)) ∧ w'.cell? ⟨g, off + 2, none⟩ = some (.string (tx b)) := ⟨_, rfl⟩
 have HSE := Lib.hid hSE
 have HSA : Hid (∀ V, Below w1.heap.size w1 V → S V) := Lib.hid (fun V hb => by
  have k := KL1.out.belowS hb
  have h9 := HG.out
  rw [hSE]
  exact ⟨k.at 0 rfl, k.at 1 rfl, (hb.cell (p := ⟨g, off, none⟩) h9.1).trans h9.2.1, (hb.cell (p := ⟨g, off + 1, none⟩) h9.1).trans h9.2.2.1, (hb.cell (p := ⟨g, off + 2, none⟩) h9.1).trans h9.2.2.2⟩)
 clear hSE
 refine Late.start S [12, 13, 14, 15, 16, 17] 18 (by kernel_rfl) (HSA.out _ HB3.out.drew) rfl (fun hS => ?_)
 refine Late.take (i := 0) (v := ?_) (by rfl) (by kernel_rfl) (by kernel_rfl) (by kernel_rfl) (by intro _ _ _ h; exact h) (by kernel_rfl) (by kernel_rfl) (Or.inl ⟨by rfl, ?_⟩) hS ?_
 rotate_left
 ·(intro W' hW'; rw [HSE.out] at hW'; obtain ⟨y0, y1, y2, y3, y4⟩ := hW'; go_simp; (try with_reducible rfl))
 try simp only [Act.put, List.setIfInBounds_toArray, List.set_cons_zero, List.set_cons_succ]
 refine Late.take (i := 1) (v := ?_) (by rfl) (by kernel_rfl) (by kernel_rfl) (by kernel_rfl) (by intro _ _ _ h; exact h) (by kernel_rfl) (by kernel_rfl) (Or.inl ⟨by rfl, ?_⟩) hS ?_
 rotate_left
 ·(intro W' hW'; rw [HSE.out] at hW'; obtain ⟨y0, y1, y2, y3, y4⟩ := hW'; go_simp; (try with_reducible rfl))
 try simp only [Act.put, List.setIfInBounds_toArray, List.set_cons_zero, List.set_cons_succ]
 refine Late.take (i := 2) (v := ?_) (by rfl) (by kernel_rfl) (by kernel_rfl) (by kernel_rfl) (by intro _ _ _ h; exact h) (by kernel_rfl) (by kernel_rfl) (Or.inl ⟨by rfl, ?_⟩) hS ?_
 rotate_left
 ·(intro W' hW'; rw [HSE.out] at hW'; obtain ⟨y0, y1, y2, y3, y4⟩ := hW'; go_simp; (try with_reducible rfl))
 try simp only [Act.put, List.setIfInBounds_toArray, List.set_cons_zero, List.set_cons_succ]
 refine Late.take (i := 3) (v := ?_) (by rfl) (by kernel_rfl) (by kernel_rfl) (by kernel_rfl) (by intro _ _ _ h; exact h) (by kernel_rfl) (by kernel_rfl) (Or.inl ⟨by rfl, ?_⟩) hS ?_
 rotate_left
 ·(intro W' hW'; rw [HSE.out] at hW'; obtain ⟨y0, y1, y2, y3, y4⟩ := hW'; go_simp; (try with_reducible rfl))
 try simp only [Act.put, List.setIfInBounds_toArray, List.set_cons_zero, List.set_cons_succ]
 refine Late.take (i := 4) (v := ?_) (by rfl) (by kernel_rfl) (by kernel_rfl) (by kernel_rfl) (by intro _ _ _ h; exact h) (by kernel_rfl) (by kernel_rfl) (Or.inl ⟨by rfl, ?_⟩) hS ?_
 rotate_left
 ·(intro W' hW'; rw [HSE.out] at hW'; obtain ⟨y0, y1, y2, y3, y4⟩ := hW'; go_simp; (try with_reducible rfl))
 try simp only [Act.put, List.setIfInBounds_toArray, List.set_cons_zero, List.set_cons_succ]
 refine Late.take (i := 5) (v := ?_) (by rfl) (by kernel_rfl) (by kernel_rfl) (by kernel_rfl) (by intro _ _ _ h; exact h) (by kernel_rfl) (by kernel_rfl) (Or.inl ⟨by rfl, ?_⟩) hS ?_
 rotate_left
 ·(intro W' hW'; rw [HSE.out] at hW'; obtain ⟨y0, y1, y2, y3, y4⟩ := hW'; go_simp; (try with_reducible rfl))
 try simp only [Act.put, List.setIfInBounds_toArray, List.set_cons_zero, List.set_cons_succ]
 refine Late.take (i := 6) (v := ?_) (by rfl) (by kernel_rfl) (by kernel_rfl) (by kernel_rfl) (by intro _ _ _ h; exact h) (by kernel_rfl) (by kernel_rfl) (Or.inl ⟨by rfl, ?_⟩) hS ?_
 rotate_left
 ·(intro W' hW'; rw [HSE.out] at hW'; obtain ⟨y0, y1, y2, y3, y4⟩ := hW'; go_simp; (try with_reducible rfl))
 try simp only [Act.put, List.setIfInBounds_toArray, List.set_cons_zero, List.set_cons_succ]
 refine Late.take (i := 7) (v := ?_) (by rfl) (by kernel_rfl) (by kernel_rfl) (by kernel_rfl) (by intro _ _ _ h; exact h) (by kernel_rfl) (by kernel_rfl) (Or.inl ⟨by rfl, ?_⟩) hS ?_
 rotate_left
 ·(intro W' hW'; rw [HSE.out] at hW'; obtain ⟨y0, y1, y2, y3, y4⟩ := hW'; go_simp; (try with_reducible rfl))
 try simp only [Act.put, List.setIfInBounds_toArray, List.set_cons_zero, List.set_cons_succ]
 refine Late.take (i := 8) (v := ?_) (by rfl) (by kernel_rfl) (by kernel_rfl) (by kernel_rfl) (by intro _ _ _ h; exact h) (by kernel_rfl) (by kernel_rfl) (Or.inl ⟨by rfl, ?_⟩) hS ?_
 rotate_left
 ·(intro W' hW'; rw [HSE.out] at hW'; obtain ⟨y0, y1, y2, y3, y4⟩ := hW'; go_simp; (try with_reducible rfl))
 try simp only [Act.put, List.setIfInBounds_toArray, List.set_cons_zero, List.set_cons_succ]
 refine Late.take (i := 9) (v := ?_) (by rfl) (by kernel_rfl) (by kernel_rfl) (by kernel_rfl) (by intro _ _ _ h; exact h) (by kernel_rfl) (by kernel_rfl) (Or.inl ⟨by rfl, ?_⟩) hS ?_
 rotate_left
 ·(intro W' hW'; rw [HSE.out] at hW'; obtain ⟨y0, y1, y2, y3, y4⟩ := hW'; go_simp; (try with_reducible rfl))
 try simp only [Act.put, List.setIfInBounds_toArray, List.set_cons_zero, List.set_cons_succ]
 refine Late.one (i := 10) (by kernel_rfl) (by rfl) (fun K' hK => ?_)
 go_simp
 have b3d : Below w.heap.size w W3.drew := (Base.Below.nextA HB1.out HB3.out).drew
 refine (HCC.out (.agg #[.slice A L.1.length c, .slice A' L.2.length c']) W3.drew (HV.out.below b3d) (HTB.out.on b3d)).mono ?_
 rintro e w5 ⟨v5, rfl, hv5, b5⟩
 have hv6 := hv5
 obtain ⟨A7, c7, A8, c8, rfl, _, _⟩ := hv5
 have b35 : Below W3.heap.size W3 w5 := Base.Below.nextA ((Below.refl _ W3).drew) b5
 have KT5 := Lib.hid (KT3.out.belowS b35)
 have b15 := Base.Below.nextA HB3.out b35
 have KR5 := Lib.hid (KR1.out.belowS b15)
 have KL5 := Lib.hid (KL1.out.belowS b15)
 have HB5 := Lib.hid (Base.Below.nextA HB1.out b15)
 have HV5 := Lib.hid hv6
 have HS5 := Lib.hid b15
 clear b3d b5 b35 b15 hv6
 go_simp
 refine hK.out _ _ (fun _ => HSA.out _ (HS5.out)) (fun hS' => ?_)
 have hS := hS' (by decide)
 clear hS' hK
 clear K'
 try simp only [Act.put, List.setIfInBounds_toArray, List.set_cons_zero, List.set_cons_succ]
 refine Late.take (i := 11) (v := ?_) (by rfl) (by kernel_rfl) (by kernel_rfl) (by kernel_rfl) (by intro _ _ _ h; exact h) (by kernel_rfl) (by kernel_rfl) (Or.inl ⟨by rfl, ?_⟩) hS ?_
 rotate_left
 ·(intro W' hW'; rw [HSE.out] at hW'; obtain ⟨y0, y1, y2, y3, y4⟩ := hW'; go_simp; (try with_reducible rfl))
 try simp only [Act.put, List.setIfInBounds_toArray, List.set_cons_zero, List.set_cons_succ]
 refine Late.takeP (i := 12) (v := ?_) (by rfl) (by kernel_rfl) (by kernel_rfl) (by kernel_rfl) (by intro _ _ _ h; exact h) (by decide) (Or.inl ⟨by rfl, ?_⟩) ?_
 rotate_left
 ·(intro W'; go_simp; (try with_reducible rfl))
 try simp only [Act.put, List.setIfInBounds_toArray, List.set_cons_zero, List.set_cons_succ]
 refine Late.takeP (i := 13) (v := ?_) (by rfl) (by kernel_rfl) (by kernel_rfl) (by kernel_rfl) (by intro _ _ _ h; exact h) (by decide) (Or.inl ⟨by rfl, ?_⟩) ?_
 rotate_left
 ·(intro W'; go_simp; (try with_reducible rfl))
 try simp only [Act.put, List.setIfInBounds_toArray, List.set_cons_zero, List.set_cons_succ]
 refine Late.takeP (i := 14) (v := ?_) (by rfl) (by kernel_rfl) (by kernel_rfl) (by kernel_rfl) (by intro _ _ _ h; exact h) (by decide) (Or.inl ⟨by rfl, ?_⟩) ?_
 rotate_left
 ·(intro W'; go_simp; (try with_reducible rfl))
 try simp only [Act.put, List.setIfInBounds_toArray, List.set_cons_zero, List.set_cons_succ]
 have s0 := KT5.out.at 0 (v := .slice A L.1.length c) rfl
 have s1 := KT5.out.at 1 (v := .slice A' L.2.length c') rfl
 have s2 := KT5.out.frz 0
 have s3 := KT5.out.frz 1
 refine Late.one (i := 15) (by kernel_rfl) (by rfl) (fun K' hK => ?_)
 go_simp
 refine hK.out _ _ (fun h => absurd h (by decide)) (fun _ => ?_)
 clear hK
 clear K'
 try simp only [Act.put, List.setIfInBounds_toArray, List.set_cons_zero, List.set_cons_succ]
 refine Late.one (i := 16) (by kernel_rfl) (by rfl) (fun K' hK => ?_)
 go_simp
 refine hK.out _ _ (fun h => absurd h (by decide)) (fun _ => ?_)
 clear hK
 clear K'
 try simp only [Act.put, List.setIfInBounds_toArray, List.set_cons_zero, List.set_cons_succ]
 refine Late.one (i := 17) (by kernel_rfl) (by rfl) (fun K' hK => ?_)
 go_simp
 refine hK.out _ _ (fun h => absurd h (by decide)) (fun _ => ?_)
 clear hK
 clear K'
 try simp only [Act.put, List.setIfInBounds_toArray, List.set_cons_zero, List.set_cons_succ]
 refine Late.done (by kernel_rfl) ?_ _
 clear HSA HSE s0 s1 s2 s3
 obtain ⟨W6, hW6⟩ : ∃ W6, W6 = (w5.setCell ⟨w1.heap.size, 0, none⟩ (.slice A7 L'.1.length c7)).setCell ⟨w1.heap.size, 1, none⟩ (.slice A8 L'.2.length c8) := ⟨_, rfl⟩
 have HW6 := Lib.hid hW6
 have h1 : w.heap.size + 1 < w1.heap.size := KR1.out.lt
 have KT6 : Blk.Blk W6 w1.heap.size 53 #[.slice A7 L'.1.length c7, .slice A8 L'.2.length c8] := by rw [hW6]; exact (KT5.out.setTo 0 (.slice A7 L'.1.length c7) rfl).setTo 1 (.slice A8 L'.2.length c8) rfl
 have KR6 : Blk.Blk W6 (w.heap.size + 1) 53 #[.slice none 0 0, .slice none 0 0] := by rw [hW6]; exact (KR5.out.other _ (by simp; omega)).other _ (by simp; omega)
 have KL6 : Blk.Blk W6 w.heap.size 53 #[.slice A L.1.length c, .slice A' L.2.length c'] := by rw [hW6]; exact (KL5.out.other _ (by simp; omega)).other _ (by simp; omega)
 have HB6 : Below w.heap.size w W6 := by rw [hW6]; exact (HB5.out.setCell (p := ⟨w1.heap.size, 0, none⟩) (by show w.heap.size ≤ w1.heap.size; omega) _).setCell (p := ⟨w1.heap.size, 1, none⟩) (by show w.heap.size ≤ w1.heap.size; omega) _
 have hv6 : LabAt W6 (.agg #[.slice A7 L'.1.length c7, .slice A8 L'.2.length c8]) L' := by rw [hW6]; exact labPut2 HV5.out KT5.out (.slice A7 L'.1.length c7) (.slice A8 L'.2.length c8)
 have t0 := KT6.at 0 (v := .slice A7 L'.1.length c7) rfl
 have t1 := KT6.at 1 (v := .slice A8 L'.2.length c8) rfl
 have l0 := KL6.at 0 (v := .slice A L.1.length c) rfl
 have l1 := KL6.at 1 (v := .slice A' L.2.length c') rfl
 have r0 := KR6.at 0 (v := .slice none 0 0) rfl
 have r1 := KR6.at 1 (v := .slice none 0 0) rfl
 have f0 := KR6.frz 0
 have f1 := KR6.frz 1
 have KK := (KR6.setTo 0 (.slice A7 L'.1.length c7) rfl).setTo 1 (.slice A8 L'.2.length c8) rfl
 have k0 := KK.at 0 (v := .slice A7 L'.1.length c7) rfl
 have k1 := KK.at 1 (v := .slice A8 L'.2.length c8) rfl
 have hb7 := (HB6.setCell (p := ⟨w.heap.size + 1, 0, none⟩) (Nat.le_succ _) (.slice A7 L'.1.length c7)).setCell (p := ⟨w.heap.size + 1, 1, none⟩) (Nat.le_succ _) (.slice A8 L'.2.length c8)
 have HFIN := Lib.hid (And.intro (labPut2 hv6 KR6 (.slice A7 L'.1.length c7) (.slice A8 L'.2.length c8)) hb7)
 clear KK hb7 KR6 KT6 KL6 HB6 hW6 KT5 KR5 KL5 HB5 KT3 HB3 HW3 KL1 KR1 HB1 HV HTB HCC HG HS5 d0 d1 g0 g1
 rw [show (w5.setCell ⟨w1.heap.size, 0, none⟩ (.slice A7 L'.1.length c7)).setCell ⟨w1.heap.size, 1, none⟩ (.slice A8 L'.2.length c8) = W6 from HW6.out.symm]
 go_wp2
 refine bodyPost_ret (v := .tuple #[.agg #[.slice A7 L'.1.length c7, .slice A8 L'.2.length c8], .string t]) (by simp [results, Tryz.results45, go_sem, k0, k1]) rfl ?_
 exact ⟨_, rfl, HFIN.out.1, HFIN.out.2⟩
set_option maxHeartbeats 4000000 in
set_option maxRecDepth 100000 in
theorem carry_levels {L L' : Lb} {line a b : List UInt8} {t : ByteArray} (hcut : cutR 32 line = [[108, 101, 118, 101, 108, 115], a, b]) (hsz : line.length ≤ 1048576)
  (hC : ∀ v w, LabAt w v L → Tabs w → Calls Tryz.prog 89 #[v, .string ⟨#[108, 101, 118, 101, 108, 115]⟩, .string (tx a), .string (tx b)] w fun e w' => ∃ v', e = .returned (.tuple #[v', .string t, .bool true]) ∧ LabAt w' v' L' ∧ Below w.heap.size w w') (v : Value) (w : World) (h : LabAt w v L) (ht : Tabs w) :
  Calls Tryz.prog 45 #[v, .string (tx line)] w (CarRet L' t w) := by
 have hv0 := h
 obtain ⟨A, c, A', c', rfl, hx, hy, _⟩ := h
 obtain ⟨W2, hW2⟩ : ∃ W2, W2 = (w.alloc (.cells #[.slice A L.1.length c, .slice A' L.2.length c'] 53)).alloc (.cells #[.slice none 0 0, .slice none 0 0] 53) := ⟨_, rfl⟩
 have b2 : Below w.heap.size w W2 := by rw [hW2]; exact ((Below.refl _ _).alloc (Nat.le_refl _) _).alloc (by simp) _
 have KL : Hid (Blk.Blk W2 w.heap.size 53 #[.slice A L.1.length c, .slice A' L.2.length c']) := Lib.hid (by rw [hW2]; exact (Blk.Blk.new w _ _).alloc _)
 have KR : Hid (Blk.Blk W2 (w.heap.size + 1) 53 #[.slice none 0 0, .slice none 0 0]) := Lib.hid (by rw [hW2]; exact Blk.Blk.newAt _ _ (by simp))
 obtain ⟨m, _, hm⟩ := (ht.on b2).2.2
 have HSp := Lib.hid (cutSplit_any (tx line) 32 (by rw [size_tx]; exact hsz) m W2 hm)
 rw [list_tx] at HSp
 unfold CutRet at HSp
 rw [hcut] at HSp
 have HV := Lib.hid hv0
 have HTB := Lib.hid ht
 have HCC := Lib.hid hC
 have HB := Lib.hid b2
 have HW := Lib.hid hW2
 clear hv0 hx hy hW2 b2 ht hcut hsz hC hm
 generalize tx line = ln at *
 go_enter Tryz.func45, Tryz.ntmps45
 go_wp2_with fail
 rw [← HW.out]
 refine HSp.out.mono ?_
 rintro e w1 ⟨Aw, cw, rfl, hwd, b1⟩
 obtain ⟨g, off, rfl, hgb, hcc⟩ := hwd (by simp [txs])
 have g0 : w1.cell? ⟨g, off, none⟩ = some (.string ⟨#[108, 101, 118, 101, 108, 115]⟩) := hcc 0 (by simp [txs])
 have g1 : w1.cell? ⟨g, off + 1, none⟩ = some (.string (tx a)) := hcc 1 (by simp [txs])
 have g2 : w1.cell? ⟨g, off + 2, none⟩ = some (.string (tx b)) := hcc 2 (by simp [txs])
 have KL1 := Lib.hid (KL.out.belowS b1)
 have KR1 := Lib.hid (KR.out.belowS b1)
 have HB1 := Lib.hid (Base.Below.nextA HB.out b1)
 have HG := Lib.hid (And.intro hgb (And.intro g0 (And.intro g1 g2)))
 clear b1 KL KR HB HSp HW hcc hwd
 go_wp2_with fail
 refine (words_levels _).mono ?_
 rintro e w' ⟨rfl, rfl⟩
 have d0 := KL1.out.at 0 (v := .slice A L.1.length c) rfl
 have d1 := KL1.out.at 1 (v := .slice A' L.2.length c') rfl
 obtain ⟨W3, hW3⟩ : ∃ W3, W3 = w1.alloc (.cells #[.slice A L.1.length c, .slice A' L.2.length c'] 53) := ⟨_, rfl⟩
 have b3 : Below w1.heap.size w1 W3 := by rw [hW3]; exact (Below.refl _ _).alloc (Nat.le_refl _) _
 have KT3 : Hid (Blk.Blk W3 w1.heap.size 53 #[.slice A L.1.length c, .slice A' L.2.length c']) := Lib.hid (by rw [hW3]; exact Blk.Blk.new _ _ _)
 have HB3 := Lib.hid b3
 have HW3 := Lib.hid hW3
 clear b3 hW3
 go_wp2_with fail
 rw [← HW3.out]
 obtain ⟨S, hSE⟩ : ∃ S : World → Prop, S = fun w' => w'.cell? ⟨w.heap.size, 0, none⟩ = some (.slice A L.1.length c) ∧ w'.cell? ⟨w.heap.size, 1, none⟩ = some (.slice A' L.2.length c') ∧ w'.cell? ⟨g, off, none⟩ = some (.string ⟨#[108, 101, 118, 101, 108, 115]⟩) ∧ w'.cell? ⟨g, off + 1, none⟩ = some (.string (tx a)) ∧ w'.cell? ⟨g, off + 2, none⟩ = some (.string (tx b)) := ⟨_, rfl⟩
 have HSE := Lib.hid hSE
 have HSA : Hid (∀ V, Below w1.heap.size w1 V → S V) := Lib.hid (fun V hb => by
  have k := KL1.out.belowS hb
  have h9 := HG.out
  rw [hSE]
  exact ⟨k.at 0 rfl, k.at 1 rfl, (hb.cell (p := ⟨g, off, none⟩) h9.1).trans h9.2.1, (hb.cell (p := ⟨g, off + 1, none⟩) h9.1).trans h9.2.2.1, (hb.cell (p := ⟨g, off + 2, none⟩) h9.1).trans h9.2.2.2⟩)
 clear hSE
 refine Late.start S [12, 13, 14, 15, 16, 17] 18 (by kernel_rfl) (HSA.out _ HB3.out.drew) rfl (fun hS => ?_)
 refine Late.take (i := 0) (v := ?_) (by rfl) (by kernel_rfl) (by kernel_rfl) (by kernel_rfl) (by intro _ _ _ h; exact h) (by kernel_rfl) (by kernel_rfl) (Or.inl ⟨by rfl, ?_⟩) hS ?_
 rotate_left
 ·(intro W' hW'; rw [HSE.out] at hW'; obtain ⟨y0, y1, y2, y3, y4⟩ := hW'; go_simp; (try with_reducible rfl))
 try simp only [Act.put, List.setIfInBounds_toArray, List.set_cons_zero, List.set_cons_succ]
 refine Late.take (i := 1) (v := ?_) (by rfl) (by kernel_rfl) (by kernel_rfl) (by kernel_rfl) (by intro _ _ _ h; exact h) (by kernel_rfl) (by kernel_rfl) (Or.inl ⟨by rfl, ?_⟩) hS ?_
 rotate_left
 ·(intro W' hW'; rw [HSE.out] at hW'; obtain ⟨y0, y1, y2, y3, y4⟩ := hW'; go_simp; (try with_reducible rfl))
 try simp only [Act.put, List.setIfInBounds_toArray, List.set_cons_zero, List.set_cons_succ]
 refine Late.take (i := 2) (v := ?_) (by rfl) (by kernel_rfl) (by kernel_rfl) (by kernel_rfl) (by intro _ _ _ h; exact h) (by kernel_rfl) (by kernel_rfl) (Or.inl ⟨by rfl, ?_⟩) hS ?_
 rotate_left
 ·(intro W' hW'; rw [HSE.out] at hW'; obtain ⟨y0, y1, y2, y3, y4⟩ := hW'; go_simp; (try with_reducible rfl))
 try simp only [Act.put, List.setIfInBounds_toArray, List.set_cons_zero, List.set_cons_succ]
 refine Late.take (i := 3) (v := ?_) (by rfl) (by kernel_rfl) (by kernel_rfl) (by kernel_rfl) (by intro _ _ _ h; exact h) (by kernel_rfl) (by kernel_rfl) (Or.inl ⟨by rfl, ?_⟩) hS ?_
 rotate_left
 ·(intro W' hW'; rw [HSE.out] at hW'; obtain ⟨y0, y1, y2, y3, y4⟩ := hW'; go_simp; (try with_reducible rfl))
 try simp only [Act.put, List.setIfInBounds_toArray, List.set_cons_zero, List.set_cons_succ]
 refine Late.take (i := 4) (v := ?_) (by rfl) (by kernel_rfl) (by kernel_rfl) (by kernel_rfl) (by intro _ _ _ h; exact h) (by kernel_rfl) (by kernel_rfl) (Or.inl ⟨by rfl, ?_⟩) hS ?_
 rotate_left
 ·(intro W' hW'; rw [HSE.out] at hW'; obtain ⟨y0, y1, y2, y3, y4⟩ := hW'; go_simp; (try with_reducible rfl))
 try simp only [Act.put, List.setIfInBounds_toArray, List.set_cons_zero, List.set_cons_succ]
 refine Late.take (i := 5) (v := ?_) (by rfl) (by kernel_rfl) (by kernel_rfl) (by kernel_rfl) (by intro _ _ _ h; exact h) (by kernel_rfl) (by kernel_rfl) (Or.inl ⟨by rfl, ?_⟩) hS ?_
 rotate_left
 ·(intro W' hW'; rw [HSE.out] at hW'; obtain ⟨y0, y1, y2, y3, y4⟩ := hW'; go_simp; (try with_reducible rfl))
 try simp only [Act.put, List.setIfInBounds_toArray, List.set_cons_zero, List.set_cons_succ]
 refine Late.take (i := 6) (v := ?_) (by rfl) (by kernel_rfl) (by kernel_rfl) (by kernel_rfl) (by intro _ _ _ h; exact h) (by kernel_rfl) (by kernel_rfl) (Or.inl ⟨by rfl, ?_⟩) hS ?_
 rotate_left
 ·(intro W' hW'; rw [HSE.out] at hW'; obtain ⟨y0, y1, y2, y3, y4⟩ := hW'; go_simp; (try with_reducible rfl))
 try simp only [Act.put, List.setIfInBounds_toArray, List.set_cons_zero, List.set_cons_succ]
 refine Late.take (i := 7) (v := ?_) (by rfl) (by kernel_rfl) (by kernel_rfl) (by kernel_rfl) (by intro _ _ _ h; exact h) (by kernel_rfl) (by kernel_rfl) (Or.inl ⟨by rfl, ?_⟩) hS ?_
 rotate_left
 ·(intro W' hW'; rw [HSE.out] at hW'; obtain ⟨y0, y1, y2, y3, y4⟩ := hW'; go_simp; (try with_reducible rfl))
 try simp only [Act.put, List.setIfInBounds_toArray, List.set_cons_zero, List.set_cons_succ]
 refine Late.take (i := 8) (v := ?_) (by rfl) (by kernel_rfl) (by kernel_rfl) (by kernel_rfl) (by intro _ _ _ h; exact h) (by kernel_rfl) (by kernel_rfl) (Or.inl ⟨by rfl, ?_⟩) hS ?_
 rotate_left
 ·(intro W' hW'; rw [HSE.out] at hW'; obtain ⟨y0, y1, y2, y3, y4⟩ := hW'; go_simp; (try with_reducible rfl))
 try simp only [Act.put, List.setIfInBounds_toArray, List.set_cons_zero, List.set_cons_succ]
 refine Late.take (i := 9) (v := ?_) (by rfl) (by kernel_rfl) (by kernel_rfl) (by kernel_rfl) (by intro _ _ _ h; exact h) (by kernel_rfl) (by kernel_rfl) (Or.inl ⟨by rfl, ?_⟩) hS ?_
 rotate_left
 ·(intro W' hW'; rw [HSE.out] at hW'; obtain ⟨y0, y1, y2, y3, y4⟩ := hW'; go_simp; (try with_reducible rfl))
 try simp only [Act.put, List.setIfInBounds_toArray, List.set_cons_zero, List.set_cons_succ]
 refine Late.one (i := 10) (by kernel_rfl) (by rfl) (fun K' hK => ?_)
 go_simp
 have b3d : Below w.heap.size w W3.drew := (Base.Below.nextA HB1.out HB3.out).drew
 refine (HCC.out (.agg #[.slice A L.1.length c, .slice A' L.2.length c']) W3.drew (HV.out.below b3d) (HTB.out.on b3d)).mono ?_
 rintro e w5 ⟨v5, rfl, hv5, b5⟩
 have hv6 := hv5
 obtain ⟨A7, c7, A8, c8, rfl, _, _⟩ := hv5
 have b35 : Below W3.heap.size W3 w5 := Base.Below.nextA ((Below.refl _ W3).drew) b5
 have KT5 := Lib.hid (KT3.out.belowS b35)
 have b15 := Base.Below.nextA HB3.out b35
 have KR5 := Lib.hid (KR1.out.belowS b15)
 have KL5 := Lib.hid (KL1.out.belowS b15)
 have HB5 := Lib.hid (Base.Below.nextA HB1.out b15)
 have HV5 := Lib.hid hv6
 have HS5 := Lib.hid b15
 clear b3d b5 b35 b15 hv6
 go_simp
 refine hK.out _ _ (fun _ => HSA.out _ (HS5.out)) (fun hS' => ?_)
 have hS := hS' (by decide)
 clear hS' hK
 clear K'
 try simp only [Act.put, List.setIfInBounds_toArray, List.set_cons_zero, List.set_cons_succ]
 refine Late.take (i := 11) (v := ?_) (by rfl) (by kernel_rfl) (by kernel_rfl) (by kernel_rfl) (by intro _ _ _ h; exact h) (by kernel_rfl) (by kernel_rfl) (Or.inl ⟨by rfl, ?_⟩) hS ?_
 rotate_left
 ·(intro W' hW'; rw [HSE.out] at hW'; obtain ⟨y0, y1, y2, y3, y4⟩ := hW'; go_simp; (try with_reducible rfl))
 try simp only [Act.put, List.setIfInBounds_toArray, List.set_cons_zero, List.set_cons_succ]
 refine Late.takeP (i := 12) (v := ?_) (by rfl) (by kernel_rfl) (by kernel_rfl) (by kernel_rfl) (by intro _ _ _ h; exact h) (by decide) (Or.inl ⟨by rfl, ?_⟩) ?_
 rotate_left
 ·(intro W'; go_simp; (try with_reducible rfl))
 try simp only [Act.put, List.setIfInBounds_toArray, List.set_cons_zero, List.set_cons_succ]
 refine Late.takeP (i := 13) (v := ?_) (by rfl) (by kernel_rfl) (by kernel_rfl) (by kernel_rfl) (by intro _ _ _ h; exact h) (by decide) (Or.inl ⟨by rfl, ?_⟩) ?_
 rotate_left
 ·(intro W'; go_simp; (try with_reducible rfl))
 try simp only [Act.put, List.setIfInBounds_toArray, List.set_cons_zero, List.set_cons_succ]
 refine Late.takeP (i := 14) (v := ?_) (by rfl) (by kernel_rfl) (by kernel_rfl) (by kernel_rfl) (by intro _ _ _ h; exact h) (by decide) (Or.inl ⟨by rfl, ?_⟩) ?_
 rotate_left
 ·(intro W'; go_simp; (try with_reducible rfl))
 try simp only [Act.put, List.setIfInBounds_toArray, List.set_cons_zero, List.set_cons_succ]
 have s0 := KT5.out.at 0 (v := .slice A L.1.length c) rfl
 have s1 := KT5.out.at 1 (v := .slice A' L.2.length c') rfl
 have s2 := KT5.out.frz 0
 have s3 := KT5.out.frz 1
 refine Late.one (i := 15) (by kernel_rfl) (by rfl) (fun K' hK => ?_)
 go_simp
 refine hK.out _ _ (fun h => absurd h (by decide)) (fun _ => ?_)
 clear hK
 clear K'
 try simp only [Act.put, List.setIfInBounds_toArray, List.set_cons_zero, List.set_cons_succ]
 refine Late.one (i := 16) (by kernel_rfl) (by rfl) (fun K' hK => ?_)
 go_simp
 refine hK.out _ _ (fun h => absurd h (by decide)) (fun _ => ?_)
 clear hK
 clear K'
 try simp only [Act.put, List.setIfInBounds_toArray, List.set_cons_zero, List.set_cons_succ]
 refine Late.one (i := 17) (by kernel_rfl) (by rfl) (fun K' hK => ?_)
 go_simp
 refine hK.out _ _ (fun h => absurd h (by decide)) (fun _ => ?_)
 clear hK
 clear K'
 try simp only [Act.put, List.setIfInBounds_toArray, List.set_cons_zero, List.set_cons_succ]
 refine Late.done (by kernel_rfl) ?_ _
 clear HSA HSE s0 s1 s2 s3
 obtain ⟨W6, hW6⟩ : ∃ W6, W6 = (w5.setCell ⟨w1.heap.size, 0, none⟩ (.slice A7 L'.1.length c7)).setCell ⟨w1.heap.size, 1, none⟩ (.slice A8 L'.2.length c8) := ⟨_, rfl⟩
 have HW6 := Lib.hid hW6
 have h1 : w.heap.size + 1 < w1.heap.size := KR1.out.lt
 have KT6 : Blk.Blk W6 w1.heap.size 53 #[.slice A7 L'.1.length c7, .slice A8 L'.2.length c8] := by rw [hW6]; exact (KT5.out.setTo 0 (.slice A7 L'.1.length c7) rfl).setTo 1 (.slice A8 L'.2.length c8) rfl
 have KR6 : Blk.Blk W6 (w.heap.size + 1) 53 #[.slice none 0 0, .slice none 0 0] := by rw [hW6]; exact (KR5.out.other _ (by simp; omega)).other _ (by simp; omega)
 have KL6 : Blk.Blk W6 w.heap.size 53 #[.slice A L.1.length c, .slice A' L.2.length c'] := by rw [hW6]; exact (KL5.out.other _ (by simp; omega)).other _ (by simp; omega)
 have HB6 : Below w.heap.size w W6 := by rw [hW6]; exact (HB5.out.setCell (p := ⟨w1.heap.size, 0, none⟩) (by show w.heap.size ≤ w1.heap.size; omega) _).setCell (p := ⟨w1.heap.size, 1, none⟩) (by show w.heap.size ≤ w1.heap.size; omega) _
 have hv6 : LabAt W6 (.agg #[.slice A7 L'.1.length c7, .slice A8 L'.2.length c8]) L' := by rw [hW6]; exact labPut2 HV5.out KT5.out (.slice A7 L'.1.length c7) (.slice A8 L'.2.length c8)
 have t0 := KT6.at 0 (v := .slice A7 L'.1.length c7) rfl
 have t1 := KT6.at 1 (v := .slice A8 L'.2.length c8) rfl
 have l0 := KL6.at 0 (v := .slice A L.1.length c) rfl
 have l1 := KL6.at 1 (v := .slice A' L.2.length c') rfl
 have r0 := KR6.at 0 (v := .slice none 0 0) rfl
 have r1 := KR6.at 1 (v := .slice none 0 0) rfl
 have f0 := KR6.frz 0
 have f1 := KR6.frz 1
 have KK := (KR6.setTo 0 (.slice A7 L'.1.length c7) rfl).setTo 1 (.slice A8 L'.2.length c8) rfl
 have k0 := KK.at 0 (v := .slice A7 L'.1.length c7) rfl
 have k1 := KK.at 1 (v := .slice A8 L'.2.length c8) rfl
 have hb7 := (HB6.setCell (p := ⟨w.heap.size + 1, 0, none⟩) (Nat.le_succ _) (.slice A7 L'.1.length c7)).setCell (p := ⟨w.heap.size + 1, 1, none⟩) (Nat.le_succ _) (.slice A8 L'.2.length c8)
 have HFIN := Lib.hid (And.intro (labPut2 hv6 KR6 (.slice A7 L'.1.length c7) (.slice A8 L'.2.length c8)) hb7)
 clear KK hb7 KR6 KT6 KL6 HB6 hW6 KT5 KR5 KL5 HB5 KT3 HB3 HW3 KL1 KR1 HB1 HV HTB HCC HG HS5 d0 d1 g0 g1
 rw [show (w5.setCell ⟨w1.heap.size, 0, none⟩ (.slice A7 L'.1.length c7)).setCell ⟨w1.heap.size, 1, none⟩ (.slice A8 L'.2.length c8) = W6 from HW6.out.symm]
 go_wp2
 refine bodyPost_ret (v := .tuple #[.agg #[.slice A7 L'.1.length c7, .slice A8 L'.2.length c8], .string t]) (by simp [results, Tryz.results45, go_sem, k0, k1]) rfl ?_
 exact ⟨_, rfl, HFIN.out.1, HFIN.out.2⟩
set_option maxHeartbeats 4000000 in
set_option maxRecDepth 100000 in
theorem carry_roll {L L' : Lb} {line a b : List UInt8} {t : ByteArray} (hcut : cutR 32 line = [[114, 111, 108, 108], a, b]) (hsz : line.length ≤ 1048576)
  (hC : ∀ v w, LabAt w v L → Tabs w → Calls Tryz.prog 89 #[v, .string ⟨#[114, 111, 108, 108]⟩, .string (tx a), .string (tx b)] w fun e w' => ∃ v', e = .returned (.tuple #[v', .string t, .bool true]) ∧ LabAt w' v' L' ∧ Below w.heap.size w w') (v : Value) (w : World) (h : LabAt w v L) (ht : Tabs w) :
  Calls Tryz.prog 45 #[v, .string (tx line)] w (CarRet L' t w) := by
 have hv0 := h
 obtain ⟨A, c, A', c', rfl, hx, hy, _⟩ := h
 obtain ⟨W2, hW2⟩ : ∃ W2, W2 = (w.alloc (.cells #[.slice A L.1.length c, .slice A' L.2.length c'] 53)).alloc (.cells #[.slice none 0 0, .slice none 0 0] 53) := ⟨_, rfl⟩
 have b2 : Below w.heap.size w W2 := by rw [hW2]; exact ((Below.refl _ _).alloc (Nat.le_refl _) _).alloc (by simp) _
 have KL : Hid (Blk.Blk W2 w.heap.size 53 #[.slice A L.1.length c, .slice A' L.2.length c']) := Lib.hid (by rw [hW2]; exact (Blk.Blk.new w _ _).alloc _)
 have KR : Hid (Blk.Blk W2 (w.heap.size + 1) 53 #[.slice none 0 0, .slice none 0 0]) := Lib.hid (by rw [hW2]; exact Blk.Blk.newAt _ _ (by simp))
 obtain ⟨m, _, hm⟩ := (ht.on b2).2.2
 have HSp := Lib.hid (cutSplit_any (tx line) 32 (by rw [size_tx]; exact hsz) m W2 hm)
 rw [list_tx] at HSp
 unfold CutRet at HSp
 rw [hcut] at HSp
 have HV := Lib.hid hv0
 have HTB := Lib.hid ht
 have HCC := Lib.hid hC
 have HB := Lib.hid b2
 have HW := Lib.hid hW2
 clear hv0 hx hy hW2 b2 ht hcut hsz hC hm
 generalize tx line = ln at *
 go_enter Tryz.func45, Tryz.ntmps45
 go_wp2_with fail
 rw [← HW.out]
 refine HSp.out.mono ?_
 rintro e w1 ⟨Aw, cw, rfl, hwd, b1⟩
 obtain ⟨g, off, rfl, hgb, hcc⟩ := hwd (by simp [txs])
 have g0 : w1.cell? ⟨g, off, none⟩ = some (.string ⟨#[114, 111, 108, 108]⟩) := hcc 0 (by simp [txs])
 have g1 : w1.cell? ⟨g, off + 1, none⟩ = some (.string (tx a)) := hcc 1 (by simp [txs])
 have g2 : w1.cell? ⟨g, off + 2, none⟩ = some (.string (tx b)) := hcc 2 (by simp [txs])
 have KL1 := Lib.hid (KL.out.belowS b1)
 have KR1 := Lib.hid (KR.out.belowS b1)
 have HB1 := Lib.hid (Base.Below.nextA HB.out b1)
 have HG := Lib.hid (And.intro hgb (And.intro g0 (And.intro g1 g2)))
 clear b1 KL KR HB HSp HW hcc hwd
 go_wp2_with fail
 refine (words_roll _).mono ?_
 rintro e w' ⟨rfl, rfl⟩
 have d0 := KL1.out.at 0 (v := .slice A L.1.length c) rfl
 have d1 := KL1.out.at 1 (v := .slice A' L.2.length c') rfl
 obtain ⟨W3, hW3⟩ : ∃ W3, W3 = w1.alloc (.cells #[.slice A L.1.length c, .slice A' L.2.length c'] 53) := ⟨_, rfl⟩
 have b3 : Below w1.heap.size w1 W3 := by rw [hW3]; exact (Below.refl _ _).alloc (Nat.le_refl _) _
 have KT3 : Hid (Blk.Blk W3 w1.heap.size 53 #[.slice A L.1.length c, .slice A' L.2.length c']) := Lib.hid (by rw [hW3]; exact Blk.Blk.new _ _ _)
 have HB3 := Lib.hid b3
 have HW3 := Lib.hid hW3
 clear b3 hW3
 go_wp2_with fail
 rw [← HW3.out]
 obtain ⟨S, hSE⟩ : ∃ S : World → Prop, S = fun w' => w'.cell? ⟨w.heap.size, 0, none⟩ = some (.slice A L.1.length c) ∧ w'.cell? ⟨w.heap.size, 1, none⟩ = some (.slice A' L.2.length c') ∧ w'.cell? ⟨g, off, none⟩ = some (.string ⟨#[114, 111, 108, 108]⟩) ∧ w'.cell? ⟨g, off + 1, none⟩ = some (.string (tx a)) ∧ w'.cell? ⟨g, off + 2, none⟩ = some (.string (tx b)) := ⟨_, rfl⟩
 have HSE := Lib.hid hSE
 have HSA : Hid (∀ V, Below w1.heap.size w1 V → S V) := Lib.hid (fun V hb => by
  have k := KL1.out.belowS hb
  have h9 := HG.out
  rw [hSE]
  exact ⟨k.at 0 rfl, k.at 1 rfl, (hb.cell (p := ⟨g, off, none⟩) h9.1).trans h9.2.1, (hb.cell (p := ⟨g, off + 1, none⟩) h9.1).trans h9.2.2.1, (hb.cell (p := ⟨g, off + 2, none⟩) h9.1).trans h9.2.2.2⟩)
 clear hSE
 refine Late.start S [12, 13, 14, 15, 16, 17] 18 (by kernel_rfl) (HSA.out _ HB3.out.drew) rfl (fun hS => ?_)
 refine Late.take (i := 0) (v := ?_) (by rfl) (by kernel_rfl) (by kernel_rfl) (by kernel_rfl) (by intro _ _ _ h; exact h) (by kernel_rfl) (by kernel_rfl) (Or.inl ⟨by rfl, ?_⟩) hS ?_
 rotate_left
 ·(intro W' hW'; rw [HSE.out] at hW'; obtain ⟨y0, y1, y2, y3, y4⟩ := hW'; go_simp; (try with_reducible rfl))
 try simp only [Act.put, List.setIfInBounds_toArray, List.set_cons_zero, List.set_cons_succ]
 refine Late.take (i := 1) (v := ?_) (by rfl) (by kernel_rfl) (by kernel_rfl) (by kernel_rfl) (by intro _ _ _ h; exact h) (by kernel_rfl) (by kernel_rfl) (Or.inl ⟨by rfl, ?_⟩) hS ?_
 rotate_left
 ·(intro W' hW'; rw [HSE.out] at hW'; obtain ⟨y0, y1, y2, y3, y4⟩ := hW'; go_simp; (try with_reducible rfl))
 try simp only [Act.put, List.setIfInBounds_toArray, List.set_cons_zero, List.set_cons_succ]
 refine Late.take (i := 2) (v := ?_) (by rfl) (by kernel_rfl) (by kernel_rfl) (by kernel_rfl) (by intro _ _ _ h; exact h) (by kernel_rfl) (by kernel_rfl) (Or.inl ⟨by rfl, ?_⟩) hS ?_
 rotate_left
 ·(intro W' hW'; rw [HSE.out] at hW'; obtain ⟨y0, y1, y2, y3, y4⟩ := hW'; go_simp; (try with_reducible rfl))
 try simp only [Act.put, List.setIfInBounds_toArray, List.set_cons_zero, List.set_cons_succ]
 refine Late.take (i := 3) (v := ?_) (by rfl) (by kernel_rfl) (by kernel_rfl) (by kernel_rfl) (by intro _ _ _ h; exact h) (by kernel_rfl) (by kernel_rfl) (Or.inl ⟨by rfl, ?_⟩) hS ?_
 rotate_left
 ·(intro W' hW'; rw [HSE.out] at hW'; obtain ⟨y0, y1, y2, y3, y4⟩ := hW'; go_simp; (try with_reducible rfl))
 try simp only [Act.put, List.setIfInBounds_toArray, List.set_cons_zero, List.set_cons_succ]
 refine Late.take (i := 4) (v := ?_) (by rfl) (by kernel_rfl) (by kernel_rfl) (by kernel_rfl) (by intro _ _ _ h; exact h) (by kernel_rfl) (by kernel_rfl) (Or.inl ⟨by rfl, ?_⟩) hS ?_
 rotate_left
 ·(intro W' hW'; rw [HSE.out] at hW'; obtain ⟨y0, y1, y2, y3, y4⟩ := hW'; go_simp; (try with_reducible rfl))
 try simp only [Act.put, List.setIfInBounds_toArray, List.set_cons_zero, List.set_cons_succ]
 refine Late.take (i := 5) (v := ?_) (by rfl) (by kernel_rfl) (by kernel_rfl) (by kernel_rfl) (by intro _ _ _ h; exact h) (by kernel_rfl) (by kernel_rfl) (Or.inl ⟨by rfl, ?_⟩) hS ?_
 rotate_left
 ·(intro W' hW'; rw [HSE.out] at hW'; obtain ⟨y0, y1, y2, y3, y4⟩ := hW'; go_simp; (try with_reducible rfl))
 try simp only [Act.put, List.setIfInBounds_toArray, List.set_cons_zero, List.set_cons_succ]
 refine Late.take (i := 6) (v := ?_) (by rfl) (by kernel_rfl) (by kernel_rfl) (by kernel_rfl) (by intro _ _ _ h; exact h) (by kernel_rfl) (by kernel_rfl) (Or.inl ⟨by rfl, ?_⟩) hS ?_
 rotate_left
 ·(intro W' hW'; rw [HSE.out] at hW'; obtain ⟨y0, y1, y2, y3, y4⟩ := hW'; go_simp; (try with_reducible rfl))
 try simp only [Act.put, List.setIfInBounds_toArray, List.set_cons_zero, List.set_cons_succ]
 refine Late.take (i := 7) (v := ?_) (by rfl) (by kernel_rfl) (by kernel_rfl) (by kernel_rfl) (by intro _ _ _ h; exact h) (by kernel_rfl) (by kernel_rfl) (Or.inl ⟨by rfl, ?_⟩) hS ?_
 rotate_left
 ·(intro W' hW'; rw [HSE.out] at hW'; obtain ⟨y0, y1, y2, y3, y4⟩ := hW'; go_simp; (try with_reducible rfl))
 try simp only [Act.put, List.setIfInBounds_toArray, List.set_cons_zero, List.set_cons_succ]
 refine Late.take (i := 8) (v := ?_) (by rfl) (by kernel_rfl) (by kernel_rfl) (by kernel_rfl) (by intro _ _ _ h; exact h) (by kernel_rfl) (by kernel_rfl) (Or.inl ⟨by rfl, ?_⟩) hS ?_
 rotate_left
 ·(intro W' hW'; rw [HSE.out] at hW'; obtain ⟨y0, y1, y2, y3, y4⟩ := hW'; go_simp; (try with_reducible rfl))
 try simp only [Act.put, List.setIfInBounds_toArray, List.set_cons_zero, List.set_cons_succ]
 refine Late.take (i := 9) (v := ?_) (by rfl) (by kernel_rfl) (by kernel_rfl) (by kernel_rfl) (by intro _ _ _ h; exact h) (by kernel_rfl) (by kernel_rfl) (Or.inl ⟨by rfl, ?_⟩) hS ?_
 rotate_left
 ·(intro W' hW'; rw [HSE.out] at hW'; obtain ⟨y0, y1, y2, y3, y4⟩ := hW'; go_simp; (try with_reducible rfl))
 try simp only [Act.put, List.setIfInBounds_toArray, List.set_cons_zero, List.set_cons_succ]
 refine Late.one (i := 10) (by kernel_rfl) (by rfl) (fun K' hK => ?_)
 go_simp
 have b3d : Below w.heap.size w W3.drew := (Base.Below.nextA HB1.out HB3.out).drew
 refine (HCC.out (.agg #[.slice A L.1.length c, .slice A' L.2.length c']) W3.drew (HV.out.below b3d) (HTB.out.on b3d)).mono ?_
 rintro e w5 ⟨v5, rfl, hv5, b5⟩
 have hv6 := hv5
 obtain ⟨A7, c7, A8, c8, rfl, _, _⟩ := hv5
 have b35 : Below W3.heap.size W3 w5 := Base.Below.nextA ((Below.refl _ W3).drew) b5
 have KT5 := Lib.hid (KT3.out.belowS b35)
 have b15 := Base.Below.nextA HB3.out b35
 have KR5 := Lib.hid (KR1.out.belowS b15)
 have KL5 := Lib.hid (KL1.out.belowS b15)
 have HB5 := Lib.hid (Base.Below.nextA HB1.out b15)
 have HV5 := Lib.hid hv6
 have HS5 := Lib.hid b15
 clear b3d b5 b35 b15 hv6
 go_simp
 refine hK.out _ _ (fun _ => HSA.out _ (HS5.out)) (fun hS' => ?_)
 have hS := hS' (by decide)
 clear hS' hK
 clear K'
 try simp only [Act.put, List.setIfInBounds_toArray, List.set_cons_zero, List.set_cons_succ]
 refine Late.take (i := 11) (v := ?_) (by rfl) (by kernel_rfl) (by kernel_rfl) (by kernel_rfl) (by intro _ _ _ h; exact h) (by kernel_rfl) (by kernel_rfl) (Or.inl ⟨by rfl, ?_⟩) hS ?_
 rotate_left
 ·(intro W' hW'; rw [HSE.out] at hW'; obtain ⟨y0, y1, y2, y3, y4⟩ := hW'; go_simp; (try with_reducible rfl))
 try simp only [Act.put, List.setIfInBounds_toArray, List.set_cons_zero, List.set_cons_succ]
 refine Late.takeP (i := 12) (v := ?_) (by rfl) (by kernel_rfl) (by kernel_rfl) (by kernel_rfl) (by intro _ _ _ h; exact h) (by decide) (Or.inl ⟨by rfl, ?_⟩) ?_
 rotate_left
 ·(intro W'; go_simp; (try with_reducible rfl))
 try simp only [Act.put, List.setIfInBounds_toArray, List.set_cons_zero, List.set_cons_succ]
 refine Late.takeP (i := 13) (v := ?_) (by rfl) (by kernel_rfl) (by kernel_rfl) (by kernel_rfl) (by intro _ _ _ h; exact h) (by decide) (Or.inl ⟨by rfl, ?_⟩) ?_
 rotate_left
 ·(intro W'; go_simp; (try with_reducible rfl))
 try simp only [Act.put, List.setIfInBounds_toArray, List.set_cons_zero, List.set_cons_succ]
 refine Late.takeP (i := 14) (v := ?_) (by rfl) (by kernel_rfl) (by kernel_rfl) (by kernel_rfl) (by intro _ _ _ h; exact h) (by decide) (Or.inl ⟨by rfl, ?_⟩) ?_
 rotate_left
 ·(intro W'; go_simp; (try with_reducible rfl))
 try simp only [Act.put, List.setIfInBounds_toArray, List.set_cons_zero, List.set_cons_succ]
 have s0 := KT5.out.at 0 (v := .slice A L.1.length c) rfl
 have s1 := KT5.out.at 1 (v := .slice A' L.2.length c') rfl
 have s2 := KT5.out.frz 0
 have s3 := KT5.out.frz 1
 refine Late.one (i := 15) (by kernel_rfl) (by rfl) (fun K' hK => ?_)
 go_simp
 refine hK.out _ _ (fun h => absurd h (by decide)) (fun _ => ?_)
 clear hK
 clear K'
 try simp only [Act.put, List.setIfInBounds_toArray, List.set_cons_zero, List.set_cons_succ]
 refine Late.one (i := 16) (by kernel_rfl) (by rfl) (fun K' hK => ?_)
 go_simp
 refine hK.out _ _ (fun h => absurd h (by decide)) (fun _ => ?_)
 clear hK
 clear K'
 try simp only [Act.put, List.setIfInBounds_toArray, List.set_cons_zero, List.set_cons_succ]
 refine Late.one (i := 17) (by kernel_rfl) (by rfl) (fun K' hK => ?_)
 go_simp
 refine hK.out _ _ (fun h => absurd h (by decide)) (fun _ => ?_)
 clear hK
 clear K'
 try simp only [Act.put, List.setIfInBounds_toArray, List.set_cons_zero, List.set_cons_succ]
 refine Late.done (by kernel_rfl) ?_ _
 clear HSA HSE s0 s1 s2 s3
 obtain ⟨W6, hW6⟩ : ∃ W6, W6 = (w5.setCell ⟨w1.heap.size, 0, none⟩ (.slice A7 L'.1.length c7)).setCell ⟨w1.heap.size, 1, none⟩ (.slice A8 L'.2.length c8) := ⟨_, rfl⟩
 have HW6 := Lib.hid hW6
 have h1 : w.heap.size + 1 < w1.heap.size := KR1.out.lt
 have KT6 : Blk.Blk W6 w1.heap.size 53 #[.slice A7 L'.1.length c7, .slice A8 L'.2.length c8] := by rw [hW6]; exact (KT5.out.setTo 0 (.slice A7 L'.1.length c7) rfl).setTo 1 (.slice A8 L'.2.length c8) rfl
 have KR6 : Blk.Blk W6 (w.heap.size + 1) 53 #[.slice none 0 0, .slice none 0 0] := by rw [hW6]; exact (KR5.out.other _ (by simp; omega)).other _ (by simp; omega)
 have KL6 : Blk.Blk W6 w.heap.size 53 #[.slice A L.1.length c, .slice A' L.2.length c'] := by rw [hW6]; exact (KL5.out.other _ (by simp; omega)).other _ (by simp; omega)
 have HB6 : Below w.heap.size w W6 := by rw [hW6]; exact (HB5.out.setCell (p := ⟨w1.heap.size, 0, none⟩) (by show w.heap.size ≤ w1.heap.size; omega) _).setCell (p := ⟨w1.heap.size, 1, none⟩) (by show w.heap.size ≤ w1.heap.size; omega) _
 have hv6 : LabAt W6 (.agg #[.slice A7 L'.1.length c7, .slice A8 L'.2.length c8]) L' := by rw [hW6]; exact labPut2 HV5.out KT5.out (.slice A7 L'.1.length c7) (.slice A8 L'.2.length c8)
 have t0 := KT6.at 0 (v := .slice A7 L'.1.length c7) rfl
 have t1 := KT6.at 1 (v := .slice A8 L'.2.length c8) rfl
 have l0 := KL6.at 0 (v := .slice A L.1.length c) rfl
 have l1 := KL6.at 1 (v := .slice A' L.2.length c') rfl
 have r0 := KR6.at 0 (v := .slice none 0 0) rfl
 have r1 := KR6.at 1 (v := .slice none 0 0) rfl
 have f0 := KR6.frz 0
 have f1 := KR6.frz 1
 have KK := (KR6.setTo 0 (.slice A7 L'.1.length c7) rfl).setTo 1 (.slice A8 L'.2.length c8) rfl
 have k0 := KK.at 0 (v := .slice A7 L'.1.length c7) rfl
 have k1 := KK.at 1 (v := .slice A8 L'.2.length c8) rfl
 have hb7 := (HB6.setCell (p := ⟨w.heap.size + 1, 0, none⟩) (Nat.le_succ _) (.slice A7 L'.1.length c7)).setCell (p := ⟨w.heap.size + 1, 1, none⟩) (Nat.le_succ _) (.slice A8 L'.2.length c8)
 have HFIN := Lib.hid (And.intro (labPut2 hv6 KR6 (.slice A7 L'.1.length c7) (.slice A8 L'.2.length c8)) hb7)
 clear KK hb7 KR6 KT6 KL6 HB6 hW6 KT5 KR5 KL5 HB5 KT3 HB3 HW3 KL1 KR1 HB1 HV HTB HCC HG HS5 d0 d1 g0 g1
 rw [show (w5.setCell ⟨w1.heap.size, 0, none⟩ (.slice A7 L'.1.length c7)).setCell ⟨w1.heap.size, 1, none⟩ (.slice A8 L'.2.length c8) = W6 from HW6.out.symm]
 go_wp2
 refine bodyPost_ret (v := .tuple #[.agg #[.slice A7 L'.1.length c7, .slice A8 L'.2.length c8], .string t]) (by simp [results, Tryz.results45, go_sem, k0, k1]) rfl ?_
 exact ⟨_, rfl, HFIN.out.1, HFIN.out.2⟩
set_option maxHeartbeats 4000000 in
set_option maxRecDepth 100000 in
theorem carry_roll_no {L : Lb} {line a b : List UInt8} (hcut : cutR 32 line = [[114, 111, 108, 108], a, b]) (hsz : line.length ≤ 1048576)
  (hC : ∀ v w, LabAt w v L → Tabs w → Calls Tryz.prog 89 #[v, .string ⟨#[114, 111, 108, 108]⟩, .string (tx a), .string (tx b)] w fun e w' => ∃ t', e = .returned (.tuple #[v, .string t', .bool false]) ∧ Below w.heap.size w w') (v : Value) (w : World) (h : LabAt w v L) (ht : Tabs w) :
  Calls Tryz.prog 45 #[v, .string (tx line)] w (CarRet L (tx tNo) w) := by
 have hv0 := h
 obtain ⟨A, c, A', c', rfl, hx, hy, _⟩ := h
 obtain ⟨W2, hW2⟩ : ∃ W2, W2 = (w.alloc (.cells #[.slice A L.1.length c, .slice A' L.2.length c'] 53)).alloc (.cells #[.slice none 0 0, .slice none 0 0] 53) := ⟨_, rfl⟩
 have b2 : Below w.heap.size w W2 := by rw [hW2]; exact ((Below.refl _ _).alloc (Nat.le_refl _) _).alloc (by simp) _
 have KL : Hid (Blk.Blk W2 w.heap.size 53 #[.slice A L.1.length c, .slice A' L.2.length c']) := Lib.hid (by rw [hW2]; exact (Blk.Blk.new w _ _).alloc _)
 have KR : Hid (Blk.Blk W2 (w.heap.size + 1) 53 #[.slice none 0 0, .slice none 0 0]) := Lib.hid (by rw [hW2]; exact Blk.Blk.newAt _ _ (by simp))
 obtain ⟨m, _, hm⟩ := (ht.on b2).2.2
 have HSp := Lib.hid (cutSplit_any (tx line) 32 (by rw [size_tx]; exact hsz) m W2 hm)
 rw [list_tx] at HSp
 unfold CutRet at HSp
 rw [hcut] at HSp
 have HV := Lib.hid hv0
 have HTB := Lib.hid ht
 have HCC := Lib.hid hC
 have HB := Lib.hid b2
 have HW := Lib.hid hW2
 clear hv0 hx hy hW2 b2 ht hcut hsz hC hm
 generalize tx line = ln at *
 go_enter Tryz.func45, Tryz.ntmps45
 go_wp2_with fail
 rw [← HW.out]
 refine HSp.out.mono ?_
 rintro e w1 ⟨Aw, cw, rfl, hwd, b1⟩
 obtain ⟨g, off, rfl, hgb, hcc⟩ := hwd (by simp [txs])
 have g0 : w1.cell? ⟨g, off, none⟩ = some (.string ⟨#[114, 111, 108, 108]⟩) := hcc 0 (by simp [txs])
 have g1 : w1.cell? ⟨g, off + 1, none⟩ = some (.string (tx a)) := hcc 1 (by simp [txs])
 have g2 : w1.cell? ⟨g, off + 2, none⟩ = some (.string (tx b)) := hcc 2 (by simp [txs])
 have KL1 := Lib.hid (KL.out.belowS b1)
 have KR1 := Lib.hid (KR.out.belowS b1)
 have HB1 := Lib.hid (Base.Below.nextA HB.out b1)
 have HG := Lib.hid (And.intro hgb (And.intro g0 (And.intro g1 g2)))
 clear b1 KL KR HB HSp HW hcc hwd
 go_wp2_with fail
 refine (words_roll _).mono ?_
 rintro e w' ⟨rfl, rfl⟩
 have d0 := KL1.out.at 0 (v := .slice A L.1.length c) rfl
 have d1 := KL1.out.at 1 (v := .slice A' L.2.length c') rfl
 obtain ⟨W3, hW3⟩ : ∃ W3, W3 = w1.alloc (.cells #[.slice A L.1.length c, .slice A' L.2.length c'] 53) := ⟨_, rfl⟩
 have b3 : Below w1.heap.size w1 W3 := by rw [hW3]; exact (Below.refl _ _).alloc (Nat.le_refl _) _
 have KT3 : Hid (Blk.Blk W3 w1.heap.size 53 #[.slice A L.1.length c, .slice A' L.2.length c']) := Lib.hid (by rw [hW3]; exact Blk.Blk.new _ _ _)
 have HB3 := Lib.hid b3
 have HW3 := Lib.hid hW3
 clear b3 hW3
 go_wp2_with fail
 rw [← HW3.out]
 obtain ⟨S, hSE⟩ : ∃ S : World → Prop, S = fun w' => w'.cell? ⟨w.heap.size, 0, none⟩ = some (.slice A L.1.length c) ∧ w'.cell? ⟨w.heap.size, 1, none⟩ = some (.slice A' L.2.length c') ∧ w'.cell? ⟨g, off, none⟩ = some (.string ⟨#[114, 111, 108, 108]⟩) ∧ w'.cell? ⟨g, off + 1, none⟩ = some (.string (tx a)) ∧ w'.cell? ⟨g, off + 2, none⟩ = some (.string (tx b)) := ⟨_, rfl⟩
 have HSE := Lib.hid hSE
 have HSA : Hid (∀ V, Below w1.heap.size w1 V → S V) := Lib.hid (fun V hb => by
  have k := KL1.out.belowS hb
  have h9 := HG.out
  rw [hSE]
  exact ⟨k.at 0 rfl, k.at 1 rfl, (hb.cell (p := ⟨g, off, none⟩) h9.1).trans h9.2.1, (hb.cell (p := ⟨g, off + 1, none⟩) h9.1).trans h9.2.2.1, (hb.cell (p := ⟨g, off + 2, none⟩) h9.1).trans h9.2.2.2⟩)
 clear hSE
 refine Late.start S [12, 13, 14, 15, 16, 17] 18 (by kernel_rfl) (HSA.out _ HB3.out.drew) rfl (fun hS => ?_)
 refine Late.take (i := 0) (v := ?_) (by rfl) (by kernel_rfl) (by kernel_rfl) (by kernel_rfl) (by intro _ _ _ h; exact h) (by kernel_rfl) (by kernel_rfl) (Or.inl ⟨by rfl, ?_⟩) hS ?_
 rotate_left
 ·(intro W' hW'; rw [HSE.out] at hW'; obtain ⟨y0, y1, y2, y3, y4⟩ := hW'; go_simp; (try with_reducible rfl))
 try simp only [Act.put, List.setIfInBounds_toArray, List.set_cons_zero, List.set_cons_succ]
 refine Late.take (i := 1) (v := ?_) (by rfl) (by kernel_rfl) (by kernel_rfl) (by kernel_rfl) (by intro _ _ _ h; exact h) (by kernel_rfl) (by kernel_rfl) (Or.inl ⟨by rfl, ?_⟩) hS ?_
 rotate_left
 ·(intro W' hW'; rw [HSE.out] at hW'; obtain ⟨y0, y1, y2, y3, y4⟩ := hW'; go_simp; (try with_reducible rfl))
 try simp only [Act.put, List.setIfInBounds_toArray, List.set_cons_zero, List.set_cons_succ]
 refine Late.take (i := 2) (v := ?_) (by rfl) (by kernel_rfl) (by kernel_rfl) (by kernel_rfl) (by intro _ _ _ h; exact h) (by kernel_rfl) (by kernel_rfl) (Or.inl ⟨by rfl, ?_⟩) hS ?_
 rotate_left
 ·(intro W' hW'; rw [HSE.out] at hW'; obtain ⟨y0, y1, y2, y3, y4⟩ := hW'; go_simp; (try with_reducible rfl))
 try simp only [Act.put, List.setIfInBounds_toArray, List.set_cons_zero, List.set_cons_succ]
 refine Late.take (i := 3) (v := ?_) (by rfl) (by kernel_rfl) (by kernel_rfl) (by kernel_rfl) (by intro _ _ _ h; exact h) (by kernel_rfl) (by kernel_rfl) (Or.inl ⟨by rfl, ?_⟩) hS ?_
 rotate_left
 ·(intro W' hW'; rw [HSE.out] at hW'; obtain ⟨y0, y1, y2, y3, y4⟩ := hW'; go_simp; (try with_reducible rfl))
 try simp only [Act.put, List.setIfInBounds_toArray, List.set_cons_zero, List.set_cons_succ]
 refine Late.take (i := 4) (v := ?_) (by rfl) (by kernel_rfl) (by kernel_rfl) (by kernel_rfl) (by intro _ _ _ h; exact h) (by kernel_rfl) (by kernel_rfl) (Or.inl ⟨by rfl, ?_⟩) hS ?_
 rotate_left
 ·(intro W' hW'; rw [HSE.out] at hW'; obtain ⟨y0, y1, y2, y3, y4⟩ := hW'; go_simp; (try with_reducible rfl))
 try simp only [Act.put, List.setIfInBounds_toArray, List.set_cons_zero, List.set_cons_succ]
 refine Late.take (i := 5) (v := ?_) (by rfl) (by kernel_rfl) (by kernel_rfl) (by kernel_rfl) (by intro _ _ _ h; exact h) (by kernel_rfl) (by kernel_rfl) (Or.inl ⟨by rfl, ?_⟩) hS ?_
 rotate_left
 ·(intro W' hW'; rw [HSE.out] at hW'; obtain ⟨y0, y1, y2, y3, y4⟩ := hW'; go_simp; (try with_reducible rfl))
 try simp only [Act.put, List.setIfInBounds_toArray, List.set_cons_zero, List.set_cons_succ]
 refine Late.take (i := 6) (v := ?_) (by rfl) (by kernel_rfl) (by kernel_rfl) (by kernel_rfl) (by intro _ _ _ h; exact h) (by kernel_rfl) (by kernel_rfl) (Or.inl ⟨by rfl, ?_⟩) hS ?_
 rotate_left
 ·(intro W' hW'; rw [HSE.out] at hW'; obtain ⟨y0, y1, y2, y3, y4⟩ := hW'; go_simp; (try with_reducible rfl))
 try simp only [Act.put, List.setIfInBounds_toArray, List.set_cons_zero, List.set_cons_succ]
 refine Late.take (i := 7) (v := ?_) (by rfl) (by kernel_rfl) (by kernel_rfl) (by kernel_rfl) (by intro _ _ _ h; exact h) (by kernel_rfl) (by kernel_rfl) (Or.inl ⟨by rfl, ?_⟩) hS ?_
 rotate_left
 ·(intro W' hW'; rw [HSE.out] at hW'; obtain ⟨y0, y1, y2, y3, y4⟩ := hW'; go_simp; (try with_reducible rfl))
 try simp only [Act.put, List.setIfInBounds_toArray, List.set_cons_zero, List.set_cons_succ]
 refine Late.take (i := 8) (v := ?_) (by rfl) (by kernel_rfl) (by kernel_rfl) (by kernel_rfl) (by intro _ _ _ h; exact h) (by kernel_rfl) (by kernel_rfl) (Or.inl ⟨by rfl, ?_⟩) hS ?_
 rotate_left
 ·(intro W' hW'; rw [HSE.out] at hW'; obtain ⟨y0, y1, y2, y3, y4⟩ := hW'; go_simp; (try with_reducible rfl))
 try simp only [Act.put, List.setIfInBounds_toArray, List.set_cons_zero, List.set_cons_succ]
 refine Late.take (i := 9) (v := ?_) (by rfl) (by kernel_rfl) (by kernel_rfl) (by kernel_rfl) (by intro _ _ _ h; exact h) (by kernel_rfl) (by kernel_rfl) (Or.inl ⟨by rfl, ?_⟩) hS ?_
 rotate_left
 ·(intro W' hW'; rw [HSE.out] at hW'; obtain ⟨y0, y1, y2, y3, y4⟩ := hW'; go_simp; (try with_reducible rfl))
 try simp only [Act.put, List.setIfInBounds_toArray, List.set_cons_zero, List.set_cons_succ]
 refine Late.one (i := 10) (by kernel_rfl) (by rfl) (fun K' hK => ?_)
 go_simp
 have b3d : Below w.heap.size w W3.drew := (Base.Below.nextA HB1.out HB3.out).drew
 refine (HCC.out (.agg #[.slice A L.1.length c, .slice A' L.2.length c']) W3.drew (HV.out.below b3d) (HTB.out.on b3d)).mono ?_
 rintro e w5 ⟨t5, rfl, b5⟩
 have b35 : Below W3.heap.size W3 w5 := Base.Below.nextA ((Below.refl _ W3).drew) b5
 have KT5 := Lib.hid (KT3.out.belowS b35)
 have b15 := Base.Below.nextA HB3.out b35
 have KR5 := Lib.hid (KR1.out.belowS b15)
 have KL5 := Lib.hid (KL1.out.belowS b15)
 have HB5 := Lib.hid (Base.Below.nextA HB1.out b15)
 have HS5 := Lib.hid b15
 clear b3d b5 b35 b15
 go_simp
 refine hK.out _ _ (fun _ => HSA.out _ (HS5.out)) (fun hS' => ?_)
 have hS := hS' (by decide)
 clear hS' hK
 clear K'
 try simp only [Act.put, List.setIfInBounds_toArray, List.set_cons_zero, List.set_cons_succ]
 refine Late.take (i := 11) (v := ?_) (by rfl) (by kernel_rfl) (by kernel_rfl) (by kernel_rfl) (by intro _ _ _ h; exact h) (by kernel_rfl) (by kernel_rfl) (Or.inl ⟨by rfl, ?_⟩) hS ?_
 rotate_left
 ·(intro W' hW'; rw [HSE.out] at hW'; obtain ⟨y0, y1, y2, y3, y4⟩ := hW'; go_simp; (try with_reducible rfl))
 try simp only [Act.put, List.setIfInBounds_toArray, List.set_cons_zero, List.set_cons_succ]
 refine Late.takeP (i := 12) (v := ?_) (by rfl) (by kernel_rfl) (by kernel_rfl) (by kernel_rfl) (by intro _ _ _ h; exact h) (by decide) (Or.inl ⟨by rfl, ?_⟩) ?_
 rotate_left
 ·(intro W'; go_simp; (try with_reducible rfl))
 try simp only [Act.put, List.setIfInBounds_toArray, List.set_cons_zero, List.set_cons_succ]
 refine Late.takeP (i := 13) (v := ?_) (by rfl) (by kernel_rfl) (by kernel_rfl) (by kernel_rfl) (by intro _ _ _ h; exact h) (by decide) (Or.inl ⟨by rfl, ?_⟩) ?_
 rotate_left
 ·(intro W'; go_simp; (try with_reducible rfl))
 try simp only [Act.put, List.setIfInBounds_toArray, List.set_cons_zero, List.set_cons_succ]
 refine Late.takeP (i := 14) (v := ?_) (by rfl) (by kernel_rfl) (by kernel_rfl) (by kernel_rfl) (by intro _ _ _ h; exact h) (by decide) (Or.inl ⟨by rfl, ?_⟩) ?_
 rotate_left
 ·(intro W'; go_simp; (try with_reducible rfl))
 try simp only [Act.put, List.setIfInBounds_toArray, List.set_cons_zero, List.set_cons_succ]
 have s0 := KT5.out.at 0 (v := .slice A L.1.length c) rfl
 have s1 := KT5.out.at 1 (v := .slice A' L.2.length c') rfl
 have s2 := KT5.out.frz 0
 have s3 := KT5.out.frz 1
 refine Late.one (i := 15) (by kernel_rfl) (by rfl) (fun K' hK => ?_)
 go_simp
 refine hK.out _ _ (fun h => absurd h (by decide)) (fun _ => ?_)
 clear hK
 clear K'
 try simp only [Act.put, List.setIfInBounds_toArray, List.set_cons_zero, List.set_cons_succ]
 refine Late.one (i := 16) (by kernel_rfl) (by rfl) (fun K' hK => ?_)
 go_simp
 refine hK.out _ _ (fun h => absurd h (by decide)) (fun _ => ?_)
 clear hK
 clear K'
 try simp only [Act.put, List.setIfInBounds_toArray, List.set_cons_zero, List.set_cons_succ]
 refine Late.one (i := 17) (by kernel_rfl) (by rfl) (fun K' hK => ?_)
 go_simp
 refine hK.out _ _ (fun h => absurd h (by decide)) (fun _ => ?_)
 clear hK
 clear K'
 try simp only [Act.put, List.setIfInBounds_toArray, List.set_cons_zero, List.set_cons_succ]
 refine Late.done (by kernel_rfl) ?_ _
 clear HSA HSE s0 s1 s2 s3
 obtain ⟨W6, hW6⟩ : ∃ W6, W6 = (w5.setCell ⟨w1.heap.size, 0, none⟩ (.slice A L.1.length c)).setCell ⟨w1.heap.size, 1, none⟩ (.slice A' L.2.length c') := ⟨_, rfl⟩
 have HW6 := Lib.hid hW6
 have h1 : w.heap.size + 1 < w1.heap.size := KR1.out.lt
 have KT6 : Blk.Blk W6 w1.heap.size 53 #[.slice A L.1.length c, .slice A' L.2.length c'] := by rw [hW6]; exact (KT5.out.setTo 0 (.slice A L.1.length c) rfl).setTo 1 (.slice A' L.2.length c') rfl
 have KR6 : Blk.Blk W6 (w.heap.size + 1) 53 #[.slice none 0 0, .slice none 0 0] := by rw [hW6]; exact (KR5.out.other _ (by simp; omega)).other _ (by simp; omega)
 have KL6 : Blk.Blk W6 w.heap.size 53 #[.slice A L.1.length c, .slice A' L.2.length c'] := by rw [hW6]; exact (KL5.out.other _ (by simp; omega)).other _ (by simp; omega)
 have HB6 : Below w.heap.size w W6 := by rw [hW6]; exact (HB5.out.setCell (p := ⟨w1.heap.size, 0, none⟩) (by show w.heap.size ≤ w1.heap.size; omega) _).setCell (p := ⟨w1.heap.size, 1, none⟩) (by show w.heap.size ≤ w1.heap.size; omega) _
 have t0 := KT6.at 0 (v := .slice A L.1.length c) rfl
 have t1 := KT6.at 1 (v := .slice A' L.2.length c') rfl
 have l0 := KL6.at 0 (v := .slice A L.1.length c) rfl
 have l1 := KL6.at 1 (v := .slice A' L.2.length c') rfl
 have r0 := KR6.at 0 (v := .slice none 0 0) rfl
 have r1 := KR6.at 1 (v := .slice none 0 0) rfl
 have f0 := KR6.frz 0
 have f1 := KR6.frz 1
 have KK := (KR6.setTo 0 (.slice A L.1.length c) rfl).setTo 1 (.slice A' L.2.length c') rfl
 have k0 := KK.at 0 (v := .slice A L.1.length c) rfl
 have k1 := KK.at 1 (v := .slice A' L.2.length c') rfl
 have hb7 := (HB6.setCell (p := ⟨w.heap.size + 1, 0, none⟩) (Nat.le_succ _) (.slice A L.1.length c)).setCell (p := ⟨w.heap.size + 1, 1, none⟩) (Nat.le_succ _) (.slice A' L.2.length c')
 have HFIN := Lib.hid (And.intro (HV.out.below hb7) hb7)
 clear KK hb7 KR6 KT6 KL6 HB6 hW6 KT5 KR5 KL5 HB5 KT3 HB3 HW3 KL1 KR1 HB1 HV HTB HCC HG HS5 d0 d1 g0 g1
 rw [show (w5.setCell ⟨w1.heap.size, 0, none⟩ (.slice A L.1.length c)).setCell ⟨w1.heap.size, 1, none⟩ (.slice A' L.2.length c') = W6 from HW6.out.symm]
 go_wp2
 refine bodyPost_ret (v := .tuple #[.agg #[.slice A L.1.length c, .slice A' L.2.length c'], .string ⟨#[110, 111]⟩]) (by simp [results, Tryz.results45, go_sem, k0, k1]) rfl ?_
 exact ⟨_, rfl, HFIN.out.1, HFIN.out.2⟩
end Go.Proofs.YtgipnbeipfhekaaGreatDoor.LcG

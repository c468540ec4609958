/- A line of a script is carried out: any line. -/
import Derived.Test.YtgipnbeipfhekaaGreatDoorMgFnL20
import Derived.Test.YtgipnbeipfhekaaGreatDoorMgFnL17
import Derived.Test.YtgipnbeipfhekaaGreatDoorMgFnL00
set_option linter.unusedVariables false
set_option linter.unusedSimpArgs false
set_option maxRecDepth 100000
set_option maxHeartbeats 8000000
namespace Go.Proofs.YtgipnbeipfhekaaGreatDoor
namespace LcG
open Go.RowKit Base Mem MemS LabM LabV StM StTx Dec Val Rd CutP RecJ CarM LcA
theorem tx_no {c l : Tx} (h : ¬ c = l) : ((tx c).toList == l) = false := beq_eq_false_iff_ne.2 fun e => h (by rw [Lib.toList_data, list_tx] at e; exact e)
theorem words_any (c : Tx) (w : World) : Calls Tryz.prog 86 #[.string (tx c)] w fun e w' => e = .returned (.int .i64 (wordsR c)) ∧ w = w' := by
 by_cases h0 : c = wSet
 ·subst h0
  rw [show tx wSet = (⟨#[115, 101, 116]⟩ : ByteArray) from rfl, show wordsR wSet = 3 from by decide]
  go_enter Tryz.func86, Tryz.ntmps86
  go_wp2
  go_ret
  exact ⟨rfl, rfl⟩
 by_cases h1 : c = wCopy
 ·subst h1
  rw [show tx wCopy = (⟨#[99, 111, 112, 121]⟩ : ByteArray) from rfl, show wordsR wCopy = 3 from by decide]
  go_enter Tryz.func86, Tryz.ntmps86
  go_wp2
  go_ret
  exact ⟨rfl, rfl⟩
 by_cases h2 : c = wBits
 ·subst h2
  rw [show tx wBits = (⟨#[98, 105, 116, 115]⟩ : ByteArray) from rfl, show wordsR wBits = 3 from by decide]
  go_enter Tryz.func86, Tryz.ntmps86
  go_wp2
  go_ret
  exact ⟨rfl, rfl⟩
 by_cases h3 : c = wSkip
 ·subst h3
  rw [show tx wSkip = (⟨#[115, 107, 105, 112]⟩ : ByteArray) from rfl, show wordsR wSkip = 3 from by decide]
  go_enter Tryz.func86, Tryz.ntmps86
  go_wp2
  go_ret
  exact ⟨rfl, rfl⟩
 by_cases h4 : c = wRoll
 ·subst h4
  rw [show tx wRoll = (⟨#[114, 111, 108, 108]⟩ : ByteArray) from rfl, show wordsR wRoll = 3 from by decide]
  go_enter Tryz.func86, Tryz.ntmps86
  go_wp2
  go_ret
  exact ⟨rfl, rfl⟩
 by_cases h5 : c = wCards
 ·subst h5
  rw [show tx wCards = (⟨#[99, 97, 114, 100, 115]⟩ : ByteArray) from rfl, show wordsR wCards = 3 from by decide]
  go_enter Tryz.func86, Tryz.ntmps86
  go_wp2
  go_ret
  exact ⟨rfl, rfl⟩
 by_cases h6 : c = wLevels
 ·subst h6
  rw [show tx wLevels = (⟨#[108, 101, 118, 101, 108, 115]⟩ : ByteArray) from rfl, show wordsR wLevels = 3 from by decide]
  go_enter Tryz.func86, Tryz.ntmps86
  go_wp2
  go_ret
  exact ⟨rfl, rfl⟩
 by_cases h7 : c = wDrop
 ·subst h7
  rw [show tx wDrop = (⟨#[100, 114, 111, 112]⟩ : ByteArray) from rfl, show wordsR wDrop = 2 from by decide]
  go_enter Tryz.func86, Tryz.ntmps86
  go_wp2
  go_ret
  exact ⟨rfl, rfl⟩
 by_cases h8 : c = wShow
 ·subst h8
  rw [show tx wShow = (⟨#[115, 104, 111, 119]⟩ : ByteArray) from rfl, show wordsR wShow = 2 from by decide]
  go_enter Tryz.func86, Tryz.ntmps86
  go_wp2
  go_ret
  exact ⟨rfl, rfl⟩
 by_cases h9 : c = wCycle
 ·subst h9
  rw [show tx wCycle = (⟨#[99, 121, 99, 108, 101]⟩ : ByteArray) from rfl, show wordsR wCycle = 2 from by decide]
  go_enter Tryz.func86, Tryz.ntmps86
  go_wp2
  go_ret
  exact ⟨rfl, rfl⟩
 have hw : wordsR c = 0 := by unfold wordsR; rw [if_neg (by simp [h0, h1, h2, h3, h4, h5, h6]), if_neg (by simp [h7, h8, h9])]
 rw [hw]
 have g0 : ((tx c).toList == [115, 101, 116]) = false := tx_no h0
 have g1 : ((tx c).toList == [99, 111, 112, 121]) = false := tx_no h1
 have g2 : ((tx c).toList == [98, 105, 116, 115]) = false := tx_no h2
 have g3 : ((tx c).toList == [115, 107, 105, 112]) = false := tx_no h3
 have g4 : ((tx c).toList == [114, 111, 108, 108]) = false := tx_no h4
 have g5 : ((tx c).toList == [99, 97, 114, 100, 115]) = false := tx_no h5
 have g6 : ((tx c).toList == [108, 101, 118, 101, 108, 115]) = false := tx_no h6
 have g7 : ((tx c).toList == [100, 114, 111, 112]) = false := tx_no h7
 have g8 : ((tx c).toList == [115, 104, 111, 119]) = false := tx_no h8
 have g9 : ((tx c).toList == [99, 121, 99, 108, 101]) = false := tx_no h9
 clear hw h0 h1 h2 h3 h4 h5 h6 h7 h8 h9
 generalize tx c = d at *
 go_enter Tryz.func86, Tryz.ntmps86
 go_wp2
 go_ret
 exact ⟨rfl, rfl⟩
theorem carry3 {L L' : Lb} {line c0 a b : List UInt8} {t : ByteArray} {ok : Bool} (hc : c0 = wSet ∨ c0 = wCopy ∨ c0 = wBits ∨ c0 = wSkip ∨ c0 = wRoll ∨ c0 = wCards ∨ c0 = wLevels) (hcut : cutR 32 line = [c0, a, b]) (hsz : line.length ≤ 1048576)
    (hC : ∀ v w, LabAt w v L → Tabs w → Calls Tryz.prog (if c0 = wSet ∨ c0 = wCopy then 87 else 89) #[v, .string (tx c0), .string (tx a), .string (tx b)] w fun e w' => ∃ v' L2 t', e = .returned (.tuple #[v', .string t', .bool ok]) ∧ LabAt w' v' L2 ∧ (ok = true → L2 = L' ∧ t' = t) ∧ Below w.heap.size w w') (v : Value) (w : World) (h : LabAt w v L) (ht : Tabs w) :
    Calls Tryz.prog 45 #[v, .string (tx line)] w (CarRet (if ok = true then L' else L) (if ok = true then t else tx tNo) w) := by
  have hv0 := h
  obtain ⟨A, c, A', c', rfl, hx, hy, _⟩ := h
  obtain ⟨W2, hW2⟩ : ∃ W2, W2 = (w.alloc (.cells #[.slice A L.1.length c, .slice A' L.2.length c'] 53)).alloc (.cells #[.slice none 0 0, .slice none 0 0] 53) := ⟨_, rfl⟩
  have b2 : Below w.heap.size w W2 := by rw [hW2]; exact ((Below.refl _ _).alloc (Nat.le_refl _) _).alloc (by simp) _
  have KL : Hid (Blk.Blk W2 w.heap.size 53 #[.slice A L.1.length c, .slice A' L.2.length c']) := J (by rw [hW2]; exact (Blk.Blk.new w _ _).alloc _)
  have KR : Hid (Blk.Blk W2 (w.heap.size + 1) 53 #[.slice none 0 0, .slice none 0 0]) := J (by rw [hW2]; exact Blk.Blk.newAt _ _ (by simp))
  obtain ⟨m, _, hm⟩ := (ht.on b2).2.2
  have HSp := J (cutSplit_any (tx line) 32 (by rw [size_tx]; exact hsz) m W2 hm)
  rw [list_tx] at HSp
  unfold CutRet at HSp
  rw [hcut] at HSp
  have HV := J hv0
  have HTB := J ht
  have HB := J b2
  have HW := J hW2
  have HWd := J (fun w => words_any c0 w)
  clear hv0 hx hy hW2 b2 ht hcut hsz hm
  generalize tx line = ln at *
  rcases hc with rfl | rfl | rfl | rfl | rfl | rfl | rfl
  rw [show wordsR wSet = 3 from by decide, show tx wSet = (⟨#[115, 101, 116]⟩ : ByteArray) from rfl] at HWd
  rw [show (if wSet = wSet ∨ wSet = wCopy then 87 else 89) = 87 from by decide] at hC
  rw [show tx wSet = (⟨#[115, 101, 116]⟩ : ByteArray) from rfl] at hC
  have HCC := J hC
  have hcx : tx wSet = (⟨#[115, 101, 116]⟩ : ByteArray) := rfl
  clear hC
  rotate_left
  rw [show wordsR wCopy = 3 from by decide, show tx wCopy = (⟨#[99, 111, 112, 121]⟩ : ByteArray) from rfl] at HWd
  rw [show (if wCopy = wSet ∨ wCopy = wCopy then 87 else 89) = 87 from by decide] at hC
  rw [show tx wCopy = (⟨#[99, 111, 112, 121]⟩ : ByteArray) from rfl] at hC
  have HCC := J hC
  have hcx : tx wCopy = (⟨#[99, 111, 112, 121]⟩ : ByteArray) := rfl
  clear hC
  rotate_left
  rw [show wordsR wBits = 3 from by decide, show tx wBits = (⟨#[98, 105, 116, 115]⟩ : ByteArray) from rfl] at HWd
  rw [show (if wBits = wSet ∨ wBits = wCopy then 87 else 89) = 89 from by decide] at hC
  rw [show tx wBits = (⟨#[98, 105, 116, 115]⟩ : ByteArray) from rfl] at hC
  have HCC := J hC
  have hcx : tx wBits = (⟨#[98, 105, 116, 115]⟩ : ByteArray) := rfl
  clear hC
  rotate_left
  rw [show wordsR wSkip = 3 from by decide, show tx wSkip = (⟨#[115, 107, 105, 112]⟩ : ByteArray) from rfl] at HWd
  rw [show (if wSkip = wSet ∨ wSkip = wCopy then 87 else 89) = 89 from by decide] at hC
  rw [show tx wSkip = (⟨#[115, 107, 105, 112]⟩ : ByteArray) from rfl] at hC
  have HCC := J hC
  have hcx : tx wSkip = (⟨#[115, 107, 105, 112]⟩ : ByteArray) := rfl
  clear hC
  rotate_left
  rw [show wordsR wRoll = 3 from by decide, show tx wRoll = (⟨#[114, 111, 108, 108]⟩ : ByteArray) from rfl] at HWd
  rw [show (if wRoll = wSet ∨ wRoll = wCopy then 87 else 89) = 89 from by decide] at hC
  rw [show tx wRoll = (⟨#[114, 111, 108, 108]⟩ : ByteArray) from rfl] at hC
  have HCC := J hC
  have hcx : tx wRoll = (⟨#[114, 111, 108, 108]⟩ : ByteArray) := rfl
  clear hC
  rotate_left
  rw [show wordsR wCards = 3 from by decide, show tx wCards = (⟨#[99, 97, 114, 100, 115]⟩ : ByteArray) from rfl] at HWd
  rw [show (if wCards = wSet ∨ wCards = wCopy then 87 else 89) = 89 from by decide] at hC
  rw [show tx wCards = (⟨#[99, 97, 114, 100, 115]⟩ : ByteArray) from rfl] at hC
  have HCC := J hC
  have hcx : tx wCards = (⟨#[99, 97, 114, 100, 115]⟩ : ByteArray) := rfl
  clear hC
  rotate_left
  rw [show wordsR wLevels = 3 from by decide, show tx wLevels = (⟨#[108, 101, 118, 101, 108, 115]⟩ : ByteArray) from rfl] at HWd
  rw [show (if wLevels = wSet ∨ wLevels = wCopy then 87 else 89) = 89 from by decide] at hC
  rw [show tx wLevels = (⟨#[108, 101, 118, 101, 108, 115]⟩ : ByteArray) from rfl] at hC
  have HCC := J hC
  have hcx : tx wLevels = (⟨#[108, 101, 118, 101, 108, 115]⟩ : ByteArray) := rfl
  clear hC
  rotate_left
  all_goals cases ok
  all_goals
    go_enter Tryz.func45, Tryz.ntmps45
    go_wp2_with fail
    rw [← HW.out]
    refine HSp.out.mono ?_
    rintro e w1 ⟨Aw, cw, rfl, hwd, b1⟩
    obtain ⟨g, off, rfl, hgb, hcc⟩ := hwd (by simp [txs])
    have g0 := hcc 0 (by simp [txs])
    have g1 : w1.cell? ⟨g, off + 1, none⟩ = some (.string (tx a)) := hcc 1 (by simp [txs])
    have g2 : w1.cell? ⟨g, off + 2, none⟩ = some (.string (tx b)) := hcc 2 (by simp [txs])
    simp only [txs, List.map_cons, List.getD_cons_zero, Nat.add_zero] at g0
    rw [hcx] at g0
    have KL1 := J (KL.out.belowS b1)
    have KR1 := J (KR.out.belowS b1)
    have HB1 := J (Base.Below.nextA HB.out b1)
    have HG := J (And.intro hgb (And.intro g0 (And.intro g1 g2)))
    clear b1 KL KR HB HSp HW hcc hwd
    go_wp2_with fail
    refine (HWd.out _).mono ?_
    rintro e w' ⟨rfl, rfl⟩
    have d0 := KL1.out.at 0 (v := .slice A L.1.length c) rfl
    have d1 := KL1.out.at 1 (v := .slice A' L.2.length c') rfl
    obtain ⟨W3, hW3⟩ : ∃ W3, W3 = w1.alloc (.cells #[.slice A L.1.length c, .slice A' L.2.length c'] 53) := ⟨_, rfl⟩
    have b3 : Below w1.heap.size w1 W3 := by rw [hW3]; exact (Below.refl _ _).alloc (Nat.le_refl _) _
    have KT3 : Hid (Blk.Blk W3 w1.heap.size 53 #[.slice A L.1.length c, .slice A' L.2.length c']) := J (by rw [hW3]; exact Blk.Blk.new _ _ _)
    have HB3 := J b3
    have HW3 := J hW3
    clear b3 hW3
    go_wp2_with fail
    rw [← HW3.out]
    obtain ⟨S, hSE⟩ : ∃ S : World → Prop, S = fun w' => w'.cell? ⟨w.heap.size, 0, none⟩ = some (.slice A L.1.length c) ∧ w'.cell? ⟨w.heap.size, 1, none⟩ = some (.slice A' L.2.length c') ∧ w'.cell? ⟨g, off, none⟩ = w1.cell? ⟨g, off, none⟩ ∧ w'.cell? ⟨g, off + 1, none⟩ = some (.string (tx a)) ∧ w'.cell? ⟨g, off + 2, none⟩ = some (.string (tx b)) := ⟨_, rfl⟩
    have HSE := J hSE
    have HSA : Hid (∀ V, Below w1.heap.size w1 V → S V) := J (fun V hb => by
      have k := KL1.out.belowS hb
      have h9 := HG.out
      rw [hSE]
      exact ⟨k.at 0 rfl, k.at 1 rfl, hb.cell (p := ⟨g, off, none⟩) h9.1, (hb.cell (p := ⟨g, off + 1, none⟩) h9.1).trans h9.2.2.1, (hb.cell (p := ⟨g, off + 2, none⟩) h9.1).trans h9.2.2.2⟩)
    rw [g0] at hSE HSE
    clear hSE
    refine Late.start S [12, 13, 14, 15, 16, 17] 18 (by kernel_rfl) (HSA.out _ HB3.out.drew) rfl (fun hS => ?_)
    refine Late.take (i := 0) (v := ?_) (by rfl) (by kernel_rfl) (by kernel_rfl) (by kernel_rfl) (by intro _ _ _ h; exact h) (by kernel_rfl) (by kernel_rfl) (Or.inl ⟨by rfl, ?_⟩) hS ?_
    rotate_left
    · (intro W' hW'; rw [HSE.out] at hW'; obtain ⟨y0, y1, y2, y3, y4⟩ := hW'; go_simp; (try with_reducible rfl))
    try simp only [Act.put, List.setIfInBounds_toArray, List.set_cons_zero, List.set_cons_succ]
    refine Late.take (i := 1) (v := ?_) (by rfl) (by kernel_rfl) (by kernel_rfl) (by kernel_rfl) (by intro _ _ _ h; exact h) (by kernel_rfl) (by kernel_rfl) (Or.inl ⟨by rfl, ?_⟩) hS ?_
    rotate_left
    · (intro W' hW'; rw [HSE.out] at hW'; obtain ⟨y0, y1, y2, y3, y4⟩ := hW'; go_simp; (try with_reducible rfl))
    try simp only [Act.put, List.setIfInBounds_toArray, List.set_cons_zero, List.set_cons_succ]
    refine Late.take (i := 2) (v := ?_) (by rfl) (by kernel_rfl) (by kernel_rfl) (by kernel_rfl) (by intro _ _ _ h; exact h) (by kernel_rfl) (by kernel_rfl) (Or.inl ⟨by rfl, ?_⟩) hS ?_
    rotate_left
    · (intro W' hW'; rw [HSE.out] at hW'; obtain ⟨y0, y1, y2, y3, y4⟩ := hW'; go_simp; (try with_reducible rfl))
    try simp only [Act.put, List.setIfInBounds_toArray, List.set_cons_zero, List.set_cons_succ]
    refine Late.take (i := 3) (v := ?_) (by rfl) (by kernel_rfl) (by kernel_rfl) (by kernel_rfl) (by intro _ _ _ h; exact h) (by kernel_rfl) (by kernel_rfl) (Or.inl ⟨by rfl, ?_⟩) hS ?_
    rotate_left
    · (intro W' hW'; rw [HSE.out] at hW'; obtain ⟨y0, y1, y2, y3, y4⟩ := hW'; go_simp; (try with_reducible rfl))
    try simp only [Act.put, List.setIfInBounds_toArray, List.set_cons_zero, List.set_cons_succ]
    refine Late.take (i := 4) (v := ?_) (by rfl) (by kernel_rfl) (by kernel_rfl) (by kernel_rfl) (by intro _ _ _ h; exact h) (by kernel_rfl) (by kernel_rfl) (Or.inl ⟨by rfl, ?_⟩) hS ?_
    rotate_left
    · (intro W' hW'; rw [HSE.out] at hW'; obtain ⟨y0, y1, y2, y3, y4⟩ := hW'; go_simp; (try with_reducible rfl))
    try simp only [Act.put, List.setIfInBounds_toArray, List.set_cons_zero, List.set_cons_succ]
    refine Late.take (i := 5) (v := ?_) (by rfl) (by kernel_rfl) (by kernel_rfl) (by kernel_rfl) (by intro _ _ _ h; exact h) (by kernel_rfl) (by kernel_rfl) (Or.inl ⟨by rfl, ?_⟩) hS ?_
    rotate_left
    · (intro W' hW'; rw [HSE.out] at hW'; obtain ⟨y0, y1, y2, y3, y4⟩ := hW'; go_simp; (try with_reducible rfl))
    try simp only [Act.put, List.setIfInBounds_toArray, List.set_cons_zero, List.set_cons_succ]
    refine Late.take (i := 6) (v := ?_) (by rfl) (by kernel_rfl) (by kernel_rfl) (by kernel_rfl) (by intro _ _ _ h; exact h) (by kernel_rfl) (by kernel_rfl) (Or.inl ⟨by rfl, ?_⟩) hS ?_
    rotate_left
    · (intro W' hW'; rw [HSE.out] at hW'; obtain ⟨y0, y1, y2, y3, y4⟩ := hW'; go_simp; (try with_reducible rfl))
    try simp only [Act.put, List.setIfInBounds_toArray, List.set_cons_zero, List.set_cons_succ]
    refine Late.take (i := 7) (v := ?_) (by rfl) (by kernel_rfl) (by kernel_rfl) (by kernel_rfl) (by intro _ _ _ h; exact h) (by kernel_rfl) (by kernel_rfl) (Or.inl ⟨by rfl, ?_⟩) hS ?_
    rotate_left
    · (intro W' hW'; rw [HSE.out] at hW'; obtain ⟨y0, y1, y2, y3, y4⟩ := hW'; go_simp; (try with_reducible rfl))
    try simp only [Act.put, List.setIfInBounds_toArray, List.set_cons_zero, List.set_cons_succ]
    refine Late.take (i := 8) (v := ?_) (by rfl) (by kernel_rfl) (by kernel_rfl) (by kernel_rfl) (by intro _ _ _ h; exact h) (by kernel_rfl) (by kernel_rfl) (Or.inl ⟨by rfl, ?_⟩) hS ?_
    rotate_left
    · (intro W' hW'; rw [HSE.out] at hW'; obtain ⟨y0, y1, y2, y3, y4⟩ := hW'; go_simp; (try with_reducible rfl))
    try simp only [Act.put, List.setIfInBounds_toArray, List.set_cons_zero, List.set_cons_succ]
    refine Late.take (i := 9) (v := ?_) (by rfl) (by kernel_rfl) (by kernel_rfl) (by kernel_rfl) (by intro _ _ _ h; exact h) (by kernel_rfl) (by kernel_rfl) (Or.inl ⟨by rfl, ?_⟩) hS ?_
    rotate_left
    · (intro W' hW'; rw [HSE.out] at hW'; obtain ⟨y0, y1, y2, y3, y4⟩ := hW'; go_simp; (try with_reducible rfl))
    try simp only [Act.put, List.setIfInBounds_toArray, List.set_cons_zero, List.set_cons_succ]
    refine Late.one (i := 10) (by kernel_rfl) (by rfl) (fun K' hK => ?_)
    go_simp
    have b3d : Below w.heap.size w W3.drew := (Base.Below.nextA HB1.out HB3.out).drew
    refine (HCC.out (.agg #[.slice A L.1.length c, .slice A' L.2.length c']) W3.drew (HV.out.below b3d) (HTB.out.on b3d)).mono ?_
    rintro e w5 ⟨v5, L2, t5, rfl, hv5, hlt, b5⟩
    have hv6 := hv5
    obtain ⟨A7, c7, A8, c8, rfl, _, _⟩ := hv5
    have b35 : Below W3.heap.size W3 w5 := Base.Below.nextA ((Below.refl _ W3).drew) b5
    have KT5 := J (KT3.out.belowS b35)
    have b15 := Base.Below.nextA HB3.out b35
    have KR5 := J (KR1.out.belowS b15)
    have KL5 := J (KL1.out.belowS b15)
    have HB5 := J (Base.Below.nextA HB1.out b15)
    have HV5 := J hv6
    have HS5 := J b15
    have HLT := J hlt
    clear b3d b5 b35 b15 hv6 hlt
    go_simp
    refine hK.out _ _ (fun _ => HSA.out _ (HS5.out)) (fun hS' => ?_)
    have hS := hS' (by decide)
    clear hS' hK
    clear K'
    try simp only [Act.put, List.setIfInBounds_toArray, List.set_cons_zero, List.set_cons_succ]
    refine Late.take (i := 11) (v := ?_) (by rfl) (by kernel_rfl) (by kernel_rfl) (by kernel_rfl) (by intro _ _ _ h; exact h) (by kernel_rfl) (by kernel_rfl) (Or.inl ⟨by rfl, ?_⟩) hS ?_
    rotate_left
    · (intro W' hW'; rw [HSE.out] at hW'; obtain ⟨y0, y1, y2, y3, y4⟩ := hW'; go_simp; (try with_reducible rfl))
    try simp only [Act.put, List.setIfInBounds_toArray, List.set_cons_zero, List.set_cons_succ]
    refine Late.takeP (i := 12) (v := ?_) (by rfl) (by kernel_rfl) (by kernel_rfl) (by kernel_rfl) (by intro _ _ _ h; exact h) (by decide) (Or.inl ⟨by rfl, ?_⟩) ?_
    rotate_left
    · (intro W'; go_simp; (try with_reducible rfl))
    try simp only [Act.put, List.setIfInBounds_toArray, List.set_cons_zero, List.set_cons_succ]
    refine Late.takeP (i := 13) (v := ?_) (by rfl) (by kernel_rfl) (by kernel_rfl) (by kernel_rfl) (by intro _ _ _ h; exact h) (by decide) (Or.inl ⟨by rfl, ?_⟩) ?_
    rotate_left
    · (intro W'; go_simp; (try with_reducible rfl))
    try simp only [Act.put, List.setIfInBounds_toArray, List.set_cons_zero, List.set_cons_succ]
    refine Late.takeP (i := 14) (v := ?_) (by rfl) (by kernel_rfl) (by kernel_rfl) (by kernel_rfl) (by intro _ _ _ h; exact h) (by decide) (Or.inl ⟨by rfl, ?_⟩) ?_
    rotate_left
    · (intro W'; go_simp; (try with_reducible rfl))
    try simp only [Act.put, List.setIfInBounds_toArray, List.set_cons_zero, List.set_cons_succ]
    have s0 := KT5.out.at 0 (v := .slice A L.1.length c) rfl
    have s1 := KT5.out.at 1 (v := .slice A' L.2.length c') rfl
    have s2 := KT5.out.frz 0
    have s3 := KT5.out.frz 1
    refine Late.one (i := 15) (by kernel_rfl) (by rfl) (fun K' hK => ?_)
    go_simp
    refine hK.out _ _ (fun h => absurd h (by decide)) (fun _ => ?_)
    clear hK
    clear K'
    try simp only [Act.put, List.setIfInBounds_toArray, List.set_cons_zero, List.set_cons_succ]
    refine Late.one (i := 16) (by kernel_rfl) (by rfl) (fun K' hK => ?_)
    go_simp
    refine hK.out _ _ (fun h => absurd h (by decide)) (fun _ => ?_)
    clear hK
    clear K'
    try simp only [Act.put, List.setIfInBounds_toArray, List.set_cons_zero, List.set_cons_succ]
    refine Late.one (i := 17) (by kernel_rfl) (by rfl) (fun K' hK => ?_)
    go_simp
    refine hK.out _ _ (fun h => absurd h (by decide)) (fun _ => ?_)
    clear hK
    clear K'
    try simp only [Act.put, List.setIfInBounds_toArray, List.set_cons_zero, List.set_cons_succ]
    refine Late.done (by kernel_rfl) ?_ _
    clear HSA HSE s0 s1 s2 s3
    obtain ⟨W6, hW6⟩ : ∃ W6, W6 = (w5.setCell ⟨w1.heap.size, 0, none⟩ (.slice A7 L2.1.length c7)).setCell ⟨w1.heap.size, 1, none⟩ (.slice A8 L2.2.length c8) := ⟨_, rfl⟩
    have HW6 := J hW6
    have h1 : w.heap.size + 1 < w1.heap.size := KR1.out.lt
    have KT6 : Blk.Blk W6 w1.heap.size 53 #[.slice A7 L2.1.length c7, .slice A8 L2.2.length c8] := by rw [hW6]; exact (KT5.out.setTo 0 (.slice A7 L2.1.length c7) rfl).setTo 1 (.slice A8 L2.2.length c8) rfl
    have KR6 : Blk.Blk W6 (w.heap.size + 1) 53 #[.slice none 0 0, .slice none 0 0] := by rw [hW6]; exact (KR5.out.other _ (by simp; omega)).other _ (by simp; omega)
    have KL6 : Blk.Blk W6 w.heap.size 53 #[.slice A L.1.length c, .slice A' L.2.length c'] := by rw [hW6]; exact (KL5.out.other _ (by simp; omega)).other _ (by simp; omega)
    have HB6 : Below w.heap.size w W6 := by rw [hW6]; exact (HB5.out.setCell (p := ⟨w1.heap.size, 0, none⟩) (by show w.heap.size ≤ w1.heap.size; omega) _).setCell (p := ⟨w1.heap.size, 1, none⟩) (by show w.heap.size ≤ w1.heap.size; omega) _
    have hv6 : LabAt W6 (.agg #[.slice A7 L2.1.length c7, .slice A8 L2.2.length c8]) L2 := by rw [hW6]; exact labPut2 HV5.out KT5.out (.slice A7 L2.1.length c7) (.slice A8 L2.2.length c8)
    have hv7 : LabAt W6 (.agg #[.slice A L.1.length c, .slice A' L.2.length c']) L := by rw [hW6]; exact labPut2 (HV.out.below HB5.out) KT5.out (.slice A7 L2.1.length c7) (.slice A8 L2.2.length c8)
    have t0 := KT6.at 0 (v := .slice A7 L2.1.length c7) rfl
    have t1 := KT6.at 1 (v := .slice A8 L2.2.length c8) rfl
    have l0 := KL6.at 0 (v := .slice A L.1.length c) rfl
    have l1 := KL6.at 1 (v := .slice A' L.2.length c') rfl
    have r0 := KR6.at 0 (v := .slice none 0 0) rfl
    have r1 := KR6.at 1 (v := .slice none 0 0) rfl
    have f0 := KR6.frz 0
    have f1 := KR6.frz 1
    have KRH := J KR6
    have HVB := J (And.intro hv6 (And.intro hv7 HB6))
    clear KR6 KT6 KL6 HB6 hW6 hv6 hv7 KT5 KR5 KL5 HB5 KT3 HB3 HW3 KL1 KR1 HB1 HV HTB HCC HG HS5 d0 d1 g0 g1 HWd
    rw [show (w5.setCell ⟨w1.heap.size, 0, none⟩ (.slice A7 L2.1.length c7)).setCell ⟨w1.heap.size, 1, none⟩ (.slice A8 L2.2.length c8) = W6 from HW6.out.symm]
    first
      | (have KK := (KRH.out.setTo 0 (.slice A L.1.length c) rfl).setTo 1 (.slice A' L.2.length c') rfl
         have k0 := KK.at 0 (v := .slice A L.1.length c) rfl
         have k1 := KK.at 1 (v := .slice A' L.2.length c') rfl
         have hb7 := (HVB.out.2.2.setCell (p := ⟨w.heap.size + 1, 0, none⟩) (Nat.le_succ _) (.slice A L.1.length c)).setCell (p := ⟨w.heap.size + 1, 1, none⟩) (Nat.le_succ _) (.slice A' L.2.length c')
         have HFIN := J (And.intro (labPut2 HVB.out.2.1 KRH.out (.slice A L.1.length c) (.slice A' L.2.length c')) hb7)
         clear KK hb7 KRH HVB
         go_wp2
         refine bodyPost_ret (v := .tuple #[.agg #[.slice A L.1.length c, .slice A' L.2.length c'], .string ⟨#[110, 111]⟩]) (by simp [results, Tryz.results45, go_sem, k0, k1]) rfl ?_
         exact ⟨_, rfl, HFIN.out.1, HFIN.out.2⟩)
      | (have KK := (KRH.out.setTo 0 (.slice A7 L2.1.length c7) rfl).setTo 1 (.slice A8 L2.2.length c8) rfl
         have k0 := KK.at 0 (v := .slice A7 L2.1.length c7) rfl
         have k1 := KK.at 1 (v := .slice A8 L2.2.length c8) rfl
         have hb7 := (HVB.out.2.2.setCell (p := ⟨w.heap.size + 1, 0, none⟩) (Nat.le_succ _) (.slice A7 L2.1.length c7)).setCell (p := ⟨w.heap.size + 1, 1, none⟩) (Nat.le_succ _) (.slice A8 L2.2.length c8)
         have HFIN := J (And.intro (labPut2 HVB.out.1 KRH.out (.slice A7 L2.1.length c7) (.slice A8 L2.2.length c8)) hb7)
         clear KK hb7 KRH HVB
         go_wp2
         refine bodyPost_ret (v := .tuple #[.agg #[.slice A7 L2.1.length c7, .slice A8 L2.2.length c8], .string t5]) (by simp [results, Tryz.results45, go_sem, k0, k1]) rfl ?_
         obtain ⟨e1, e2⟩ := HLT.out trivial
         have hf := HFIN.out
         subst e1
         subst e2
         exact ⟨_, rfl, hf.1, hf.2⟩)
theorem carry2 {L L' : Lb} {line c0 a : List UInt8} {t : ByteArray} {ok : Bool} (hc : c0 = wDrop ∨ c0 = wShow ∨ c0 = wCycle) (hcut : cutR 32 line = [c0, a]) (hsz : line.length ≤ 1048576)
    (hC : ∀ v w, LabAt w v L → Tabs w → Calls Tryz.prog 88 #[v, .string (tx c0), .string (tx a)] w fun e w' => ∃ v' L2 t', e = .returned (.tuple #[v', .string t', .bool ok]) ∧ LabAt w' v' L2 ∧ (ok = true → L2 = L' ∧ t' = t) ∧ Below w.heap.size w w') (v : Value) (w : World) (h : LabAt w v L) (ht : Tabs w) :
    Calls Tryz.prog 45 #[v, .string (tx line)] w (CarRet (if ok = true then L' else L) (if ok = true then t else tx tNo) w) := by
  have hv0 := h
  obtain ⟨A, c, A', c', rfl, hx, hy, _⟩ := h
  obtain ⟨W2, hW2⟩ : ∃ W2, W2 = (w.alloc (.cells #[.slice A L.1.length c, .slice A' L.2.length c'] 53)).alloc (.cells #[.slice none 0 0, .slice none 0 0] 53) := ⟨_, rfl⟩
  have b2 : Below w.heap.size w W2 := by rw [hW2]; exact ((Below.refl _ _).alloc (Nat.le_refl _) _).alloc (by simp) _
  have KL : Hid (Blk.Blk W2 w.heap.size 53 #[.slice A L.1.length c, .slice A' L.2.length c']) := J (by rw [hW2]; exact (Blk.Blk.new w _ _).alloc _)
  have KR : Hid (Blk.Blk W2 (w.heap.size + 1) 53 #[.slice none 0 0, .slice none 0 0]) := J (by rw [hW2]; exact Blk.Blk.newAt _ _ (by simp))
  obtain ⟨m, _, hm⟩ := (ht.on b2).2.2
  have HSp := J (cutSplit_any (tx line) 32 (by rw [size_tx]; exact hsz) m W2 hm)
  rw [list_tx] at HSp
  unfold CutRet at HSp
  rw [hcut] at HSp
  have HV := J hv0
  have HTB := J ht
  have HB := J b2
  have HW := J hW2
  have HWd := J (fun w => words_any c0 w)
  clear hv0 hx hy hW2 b2 ht hcut hsz hm
  generalize tx line = ln at *
  rcases hc with rfl | rfl | rfl
  rw [show wordsR wDrop = 2 from by decide, show tx wDrop = (⟨#[100, 114, 111, 112]⟩ : ByteArray) from rfl] at HWd
  rw [show tx wDrop = (⟨#[100, 114, 111, 112]⟩ : ByteArray) from rfl] at hC
  have HCC := J hC
  have hcx : tx wDrop = (⟨#[100, 114, 111, 112]⟩ : ByteArray) := rfl
  clear hC
  rotate_left
  rw [show wordsR wShow = 2 from by decide, show tx wShow = (⟨#[115, 104, 111, 119]⟩ : ByteArray) from rfl] at HWd
  rw [show tx wShow = (⟨#[115, 104, 111, 119]⟩ : ByteArray) from rfl] at hC
  have HCC := J hC
  have hcx : tx wShow = (⟨#[115, 104, 111, 119]⟩ : ByteArray) := rfl
  clear hC
  rotate_left
  rw [show wordsR wCycle = 2 from by decide, show tx wCycle = (⟨#[99, 121, 99, 108, 101]⟩ : ByteArray) from rfl] at HWd
  rw [show tx wCycle = (⟨#[99, 121, 99, 108, 101]⟩ : ByteArray) from rfl] at hC
  have HCC := J hC
  have hcx : tx wCycle = (⟨#[99, 121, 99, 108, 101]⟩ : ByteArray) := rfl
  clear hC
  rotate_left
  all_goals cases ok
  all_goals
    go_enter Tryz.func45, Tryz.ntmps45
    go_wp2_with fail
    rw [← HW.out]
    refine HSp.out.mono ?_
    rintro e w1 ⟨Aw, cw, rfl, hwd, b1⟩
    obtain ⟨g, off, rfl, hgb, hcc⟩ := hwd (by simp [txs])
    have g0 := hcc 0 (by simp [txs])
    have g1 : w1.cell? ⟨g, off + 1, none⟩ = some (.string (tx a)) := hcc 1 (by simp [txs])
    simp only [txs, List.map_cons, List.getD_cons_zero, Nat.add_zero] at g0
    rw [hcx] at g0
    have KL1 := J (KL.out.belowS b1)
    have KR1 := J (KR.out.belowS b1)
    have HB1 := J (Base.Below.nextA HB.out b1)
    have HG := J (And.intro hgb (And.intro g0 g1))
    clear b1 KL KR HB HSp HW hcc hwd
    go_wp2_with fail
    refine (HWd.out _).mono ?_
    rintro e w' ⟨rfl, rfl⟩
    have d0 := KL1.out.at 0 (v := .slice A L.1.length c) rfl
    have d1 := KL1.out.at 1 (v := .slice A' L.2.length c') rfl
    obtain ⟨W3, hW3⟩ : ∃ W3, W3 = w1.alloc (.cells #[.slice A L.1.length c, .slice A' L.2.length c'] 53) := ⟨_, rfl⟩
    have b3 : Below w1.heap.size w1 W3 := by rw [hW3]; exact (Below.refl _ _).alloc (Nat.le_refl _) _
    have KT3 : Hid (Blk.Blk W3 w1.heap.size 53 #[.slice A L.1.length c, .slice A' L.2.length c']) := J (by rw [hW3]; exact Blk.Blk.new _ _ _)
    have HB3 := J b3
    have HW3 := J hW3
    clear b3 hW3
    go_wp2_with fail
    rw [← HW3.out]
    obtain ⟨S, hSE⟩ : ∃ S : World → Prop, S = fun w' => w'.cell? ⟨w.heap.size, 0, none⟩ = some (.slice A L.1.length c) ∧ w'.cell? ⟨w.heap.size, 1, none⟩ = some (.slice A' L.2.length c') ∧ w'.cell? ⟨g, off, none⟩ = w1.cell? ⟨g, off, none⟩ ∧ w'.cell? ⟨g, off + 1, none⟩ = some (.string (tx a)) ∧ True := ⟨_, rfl⟩
    have HSE := J hSE
    have HSA : Hid (∀ V, Below w1.heap.size w1 V → S V) := J (fun V hb => by
      have k := KL1.out.belowS hb
      have h9 := HG.out
      rw [hSE]
      exact ⟨k.at 0 rfl, k.at 1 rfl, hb.cell (p := ⟨g, off, none⟩) h9.1, (hb.cell (p := ⟨g, off + 1, none⟩) h9.1).trans h9.2.2, trivial⟩)
    rw [g0] at hSE HSE
    clear hSE
    refine Late.start S [9, 10, 11, 12, 13, 14] 15 (by kernel_rfl) (HSA.out _ HB3.out.drew) rfl (fun hS => ?_)
    refine Late.take (i := 0) (v := ?_) (by rfl) (by kernel_rfl) (by kernel_rfl) (by kernel_rfl) (by intro _ _ _ h; exact h) (by kernel_rfl) (by kernel_rfl) (Or.inl ⟨by rfl, ?_⟩) hS ?_
    rotate_left
    · (intro W' hW'; rw [HSE.out] at hW'; obtain ⟨y0, y1, y2, y3, y4⟩ := hW'; go_simp; (try with_reducible rfl))
    try simp only [Act.put, List.setIfInBounds_toArray, List.set_cons_zero, List.set_cons_succ]
    refine Late.take (i := 1) (v := ?_) (by rfl) (by kernel_rfl) (by kernel_rfl) (by kernel_rfl) (by intro _ _ _ h; exact h) (by kernel_rfl) (by kernel_rfl) (Or.inl ⟨by rfl, ?_⟩) hS ?_
    rotate_left
    · (intro W' hW'; rw [HSE.out] at hW'; obtain ⟨y0, y1, y2, y3, y4⟩ := hW'; go_simp; (try with_reducible rfl))
    try simp only [Act.put, List.setIfInBounds_toArray, List.set_cons_zero, List.set_cons_succ]
    refine Late.take (i := 2) (v := ?_) (by rfl) (by kernel_rfl) (by kernel_rfl) (by kernel_rfl) (by intro _ _ _ h; exact h) (by kernel_rfl) (by kernel_rfl) (Or.inl ⟨by rfl, ?_⟩) hS ?_
    rotate_left
    · (intro W' hW'; rw [HSE.out] at hW'; obtain ⟨y0, y1, y2, y3, y4⟩ := hW'; go_simp; (try with_reducible rfl))
    try simp only [Act.put, List.setIfInBounds_toArray, List.set_cons_zero, List.set_cons_succ]
    refine Late.take (i := 3) (v := ?_) (by rfl) (by kernel_rfl) (by kernel_rfl) (by kernel_rfl) (by intro _ _ _ h; exact h) (by kernel_rfl) (by kernel_rfl) (Or.inl ⟨by rfl, ?_⟩) hS ?_
    rotate_left
    · (intro W' hW'; rw [HSE.out] at hW'; obtain ⟨y0, y1, y2, y3, y4⟩ := hW'; go_simp; (try with_reducible rfl))
    try simp only [Act.put, List.setIfInBounds_toArray, List.set_cons_zero, List.set_cons_succ]
    refine Late.take (i := 4) (v := ?_) (by rfl) (by kernel_rfl) (by kernel_rfl) (by kernel_rfl) (by intro _ _ _ h; exact h) (by kernel_rfl) (by kernel_rfl) (Or.inl ⟨by rfl, ?_⟩) hS ?_
    rotate_left
    · (intro W' hW'; rw [HSE.out] at hW'; obtain ⟨y0, y1, y2, y3, y4⟩ := hW'; go_simp; (try with_reducible rfl))
    try simp only [Act.put, List.setIfInBounds_toArray, List.set_cons_zero, List.set_cons_succ]
    refine Late.take (i := 5) (v := ?_) (by rfl) (by kernel_rfl) (by kernel_rfl) (by kernel_rfl) (by intro _ _ _ h; exact h) (by kernel_rfl) (by kernel_rfl) (Or.inl ⟨by rfl, ?_⟩) hS ?_
    rotate_left
    · (intro W' hW'; rw [HSE.out] at hW'; obtain ⟨y0, y1, y2, y3, y4⟩ := hW'; go_simp; (try with_reducible rfl))
    try simp only [Act.put, List.setIfInBounds_toArray, List.set_cons_zero, List.set_cons_succ]
    refine Late.take (i := 6) (v := ?_) (by rfl) (by kernel_rfl) (by kernel_rfl) (by kernel_rfl) (by intro _ _ _ h; exact h) (by kernel_rfl) (by kernel_rfl) (Or.inl ⟨by rfl, ?_⟩) hS ?_
    rotate_left
    · (intro W' hW'; rw [HSE.out] at hW'; obtain ⟨y0, y1, y2, y3, y4⟩ := hW'; go_simp; (try with_reducible rfl))
    try simp only [Act.put, List.setIfInBounds_toArray, List.set_cons_zero, List.set_cons_succ]
    refine Late.one (i := 7) (by kernel_rfl) (by rfl) (fun K' hK => ?_)
    go_simp
    have b3d : Below w.heap.size w W3.drew := (Base.Below.nextA HB1.out HB3.out).drew
    refine (HCC.out (.agg #[.slice A L.1.length c, .slice A' L.2.length c']) W3.drew (HV.out.below b3d) (HTB.out.on b3d)).mono ?_
    rintro e w5 ⟨v5, L2, t5, rfl, hv5, hlt, b5⟩
    have hv6 := hv5
    obtain ⟨A7, c7, A8, c8, rfl, _, _⟩ := hv5
    have b35 : Below W3.heap.size W3 w5 := Base.Below.nextA ((Below.refl _ W3).drew) b5
    have KT5 := J (KT3.out.belowS b35)
    have b15 := Base.Below.nextA HB3.out b35
    have KR5 := J (KR1.out.belowS b15)
    have KL5 := J (KL1.out.belowS b15)
    have HB5 := J (Base.Below.nextA HB1.out b15)
    have HV5 := J hv6
    have HS5 := J b15
    have HLT := J hlt
    clear b3d b5 b35 b15 hv6 hlt
    go_simp
    refine hK.out _ _ (fun _ => HSA.out _ (HS5.out)) (fun hS' => ?_)
    have hS := hS' (by decide)
    clear hS' hK
    clear K'
    try simp only [Act.put, List.setIfInBounds_toArray, List.set_cons_zero, List.set_cons_succ]
    refine Late.take (i := 8) (v := ?_) (by rfl) (by kernel_rfl) (by kernel_rfl) (by kernel_rfl) (by intro _ _ _ h; exact h) (by kernel_rfl) (by kernel_rfl) (Or.inl ⟨by rfl, ?_⟩) hS ?_
    rotate_left
    · (intro W' hW'; rw [HSE.out] at hW'; obtain ⟨y0, y1, y2, y3, y4⟩ := hW'; go_simp; (try with_reducible rfl))
    try simp only [Act.put, List.setIfInBounds_toArray, List.set_cons_zero, List.set_cons_succ]
    refine Late.takeP (i := 9) (v := ?_) (by rfl) (by kernel_rfl) (by kernel_rfl) (by kernel_rfl) (by intro _ _ _ h; exact h) (by decide) (Or.inl ⟨by rfl, ?_⟩) ?_
    rotate_left
    · (intro W'; go_simp; (try with_reducible rfl))
    try simp only [Act.put, List.setIfInBounds_toArray, List.set_cons_zero, List.set_cons_succ]
    refine Late.takeP (i := 10) (v := ?_) (by rfl) (by kernel_rfl) (by kernel_rfl) (by kernel_rfl) (by intro _ _ _ h; exact h) (by decide) (Or.inl ⟨by rfl, ?_⟩) ?_
    rotate_left
    · (intro W'; go_simp; (try with_reducible rfl))
    try simp only [Act.put, List.setIfInBounds_toArray, List.set_cons_zero, List.set_cons_succ]
    refine Late.takeP (i := 11) (v := ?_) (by rfl) (by kernel_rfl) (by kernel_rfl) (by kernel_rfl) (by intro _ _ _ h; exact h) (by decide) (Or.inl ⟨by rfl, ?_⟩) ?_
    rotate_left
    · (intro W'; go_simp; (try with_reducible rfl))
    try simp only [Act.put, List.setIfInBounds_toArray, List.set_cons_zero, List.set_cons_succ]
    have s0 := KT5.out.at 0 (v := .slice A L.1.length c) rfl
    have s1 := KT5.out.at 1 (v := .slice A' L.2.length c') rfl
    have s2 := KT5.out.frz 0
    have s3 := KT5.out.frz 1
    refine Late.one (i := 12) (by kernel_rfl) (by rfl) (fun K' hK => ?_)
    go_simp
    refine hK.out _ _ (fun h => absurd h (by decide)) (fun _ => ?_)
    clear hK
    clear K'
    try simp only [Act.put, List.setIfInBounds_toArray, List.set_cons_zero, List.set_cons_succ]
    refine Late.one (i := 13) (by kernel_rfl) (by rfl) (fun K' hK => ?_)
    go_simp
    refine hK.out _ _ (fun h => absurd h (by decide)) (fun _ => ?_)
    clear hK
    clear K'
    try simp only [Act.put, List.setIfInBounds_toArray, List.set_cons_zero, List.set_cons_succ]
    refine Late.one (i := 14) (by kernel_rfl) (by rfl) (fun K' hK => ?_)
    go_simp
    refine hK.out _ _ (fun h => absurd h (by decide)) (fun _ => ?_)
    clear hK
    clear K'
    try simp only [Act.put, List.setIfInBounds_toArray, List.set_cons_zero, List.set_cons_succ]
    refine Late.done (by kernel_rfl) ?_ _
    clear HSA HSE s0 s1 s2 s3
    obtain ⟨W6, hW6⟩ : ∃ W6, W6 = (w5.setCell ⟨w1.heap.size, 0, none⟩ (.slice A7 L2.1.length c7)).setCell ⟨w1.heap.size, 1, none⟩ (.slice A8 L2.2.length c8) := ⟨_, rfl⟩
    have HW6 := J hW6
    have h1 : w.heap.size + 1 < w1.heap.size := KR1.out.lt
    have KT6 : Blk.Blk W6 w1.heap.size 53 #[.slice A7 L2.1.length c7, .slice A8 L2.2.length c8] := by rw [hW6]; exact (KT5.out.setTo 0 (.slice A7 L2.1.length c7) rfl).setTo 1 (.slice A8 L2.2.length c8) rfl
    have KR6 : Blk.Blk W6 (w.heap.size + 1) 53 #[.slice none 0 0, .slice none 0 0] := by rw [hW6]; exact (KR5.out.other _ (by simp; omega)).other _ (by simp; omega)
    have KL6 : Blk.Blk W6 w.heap.size 53 #[.slice A L.1.length c, .slice A' L.2.length c'] := by rw [hW6]; exact (KL5.out.other _ (by simp; omega)).other _ (by simp; omega)
    have HB6 : Below w.heap.size w W6 := by rw [hW6]; exact (HB5.out.setCell (p := ⟨w1.heap.size, 0, none⟩) (by show w.heap.size ≤ w1.heap.size; omega) _).setCell (p := ⟨w1.heap.size, 1, none⟩) (by show w.heap.size ≤ w1.heap.size; omega) _
    have hv6 : LabAt W6 (.agg #[.slice A7 L2.1.length c7, .slice A8 L2.2.length c8]) L2 := by rw [hW6]; exact labPut2 HV5.out KT5.out (.slice A7 L2.1.length c7) (.slice A8 L2.2.length c8)
    have hv7 : LabAt W6 (.agg #[.slice A L.1.length c, .slice A' L.2.length c']) L := by rw [hW6]; exact labPut2 (HV.out.below HB5.out) KT5.out (.slice A7 L2.1.length c7) (.slice A8 L2.2.length c8)
    have t0 := KT6.at 0 (v := .slice A7 L2.1.length c7) rfl
    have t1 := KT6.at 1 (v := .slice A8 L2.2.length c8) rfl
    have l0 := KL6.at 0 (v := .slice A L.1.length c) rfl
    have l1 := KL6.at 1 (v := .slice A' L.2.length c') rfl
    have r0 := KR6.at 0 (v := .slice none 0 0) rfl
    have r1 := KR6.at 1 (v := .slice none 0 0) rfl
    have f0 := KR6.frz 0
    have f1 := KR6.frz 1
    have KRH := J KR6
    have HVB := J (And.intro hv6 (And.intro hv7 HB6))
    clear KR6 KT6 KL6 HB6 hW6 hv6 hv7 KT5 KR5 KL5 HB5 KT3 HB3 HW3 KL1 KR1 HB1 HV HTB HCC HG HS5 d0 d1 g0 g1 HWd
    rw [show (w5.setCell ⟨w1.heap.size, 0, none⟩ (.slice A7 L2.1.length c7)).setCell ⟨w1.heap.size, 1, none⟩ (.slice A8 L2.2.length c8) = W6 from HW6.out.symm]
    first
      | (have KK := (KRH.out.setTo 0 (.slice A L.1.length c) rfl).setTo 1 (.slice A' L.2.length c') rfl
         have k0 := KK.at 0 (v := .slice A L.1.length c) rfl
         have k1 := KK.at 1 (v := .slice A' L.2.length c') rfl
         have hb7 := (HVB.out.2.2.setCell (p := ⟨w.heap.size + 1, 0, none⟩) (Nat.le_succ _) (.slice A L.1.length c)).setCell (p := ⟨w.heap.size + 1, 1, none⟩) (Nat.le_succ _) (.slice A' L.2.length c')
         have HFIN := J (And.intro (labPut2 HVB.out.2.1 KRH.out (.slice A L.1.length c) (.slice A' L.2.length c')) hb7)
         clear KK hb7 KRH HVB
         go_wp2
         refine bodyPost_ret (v := .tuple #[.agg #[.slice A L.1.length c, .slice A' L.2.length c'], .string ⟨#[110, 111]⟩]) (by simp [results, Tryz.results45, go_sem, k0, k1]) rfl ?_
         exact ⟨_, rfl, HFIN.out.1, HFIN.out.2⟩)
      | (have KK := (KRH.out.setTo 0 (.slice A7 L2.1.length c7) rfl).setTo 1 (.slice A8 L2.2.length c8) rfl
         have k0 := KK.at 0 (v := .slice A7 L2.1.length c7) rfl
         have k1 := KK.at 1 (v := .slice A8 L2.2.length c8) rfl
         have hb7 := (HVB.out.2.2.setCell (p := ⟨w.heap.size + 1, 0, none⟩) (Nat.le_succ _) (.slice A7 L2.1.length c7)).setCell (p := ⟨w.heap.size + 1, 1, none⟩) (Nat.le_succ _) (.slice A8 L2.2.length c8)
         have HFIN := J (And.intro (labPut2 HVB.out.1 KRH.out (.slice A7 L2.1.length c7) (.slice A8 L2.2.length c8)) hb7)
         clear KK hb7 KRH HVB
         go_wp2
         refine bodyPost_ret (v := .tuple #[.agg #[.slice A7 L2.1.length c7, .slice A8 L2.2.length c8], .string t5]) (by simp [results, Tryz.results45, go_sem, k0, k1]) rfl ?_
         obtain ⟨e1, e2⟩ := HLT.out trivial
         have hf := HFIN.out
         subst e1
         subst e2
         exact ⟨_, rfl, hf.1, hf.2⟩)
theorem cut_pos (line : Tx) : 0 < (cutR 32 line).length := (cutR_len 32 line.length line (Nat.le_refl _)).1
theorem carry_what {L : Lb} {line : Tx} (hne : ¬ wordsR ((cutR 32 line).getD 0 []) = (cutR 32 line).length) (hsz : line.length ≤ 1048576) (v : Value) (w : World) (h : LabAt w v L) (ht : Tabs w) :
  Calls Tryz.prog 45 #[v, .string (tx line)] w (CarRet L (tx tWhat) w) := by
 have hv0 := h
 obtain ⟨A, c, A', c', rfl, hx, hy, _⟩ := h
 obtain ⟨W2, hW2⟩ : ∃ W2, W2 = (w.alloc (.cells #[.slice A L.1.length c, .slice A' L.2.length c'] 53)).alloc (.cells #[.slice none 0 0, .slice none 0 0] 53) := ⟨_, rfl⟩
 have b2 : Below w.heap.size w W2 := by rw [hW2]; exact ((Below.refl _ _).alloc (Nat.le_refl _) _).alloc (by simp) _
 have KL : Hid (Blk.Blk W2 w.heap.size 53 #[.slice A L.1.length c, .slice A' L.2.length c']) := J (by rw [hW2]; exact (Blk.Blk.new w _ _).alloc _)
 have KR : Hid (Blk.Blk W2 (w.heap.size + 1) 53 #[.slice none 0 0, .slice none 0 0]) := J (by rw [hW2]; exact Blk.Blk.newAt _ _ (by simp))
 obtain ⟨m, _, hm⟩ := (ht.on b2).2.2
 have HSp := J (cutSplit_any (tx line) 32 (by rw [size_tx]; exact hsz) m W2 hm)
 rw [list_tx] at HSp
 unfold CutRet at HSp
 obtain ⟨ls, hls⟩ : ∃ ls, ls = cutR 32 line := ⟨_, rfl⟩
 rw [← hls] at HSp hne
 obtain ⟨c0, hc0⟩ : ∃ c0, c0 = ls.getD 0 [] := ⟨_, rfl⟩
 rw [← hc0] at hne
 have hpos : 0 < ls.length := by rw [hls]; exact cut_pos line
 have HLL := J (And.intro hpos hc0)
 have hne2 : ¬ ((wordsR c0 : Nat) : Int) = ((ls.length : Nat) : Int) := by omega
 have HV := J hv0
 have HB := J b2
 have HW := J hW2
 have HWd := J (fun w => words_any c0 w)
 obtain ⟨k, hk⟩ : ∃ k : Nat, k = ls.length := ⟨_, rfl⟩
 have hkl : k = ls.length := hk
 rw [← hkl] at hne2
 have HTX := J hk
 have hk0 : (0 : Int) < (k : Int) := by omega
 clear hv0 hx hy hW2 b2 ht hsz hm hne hls hc0 hpos hkl hk
 generalize tx line = ln at *
 go_enter Tryz.func45, Tryz.ntmps45
 go_wp2_with fail
 rw [← HW.out]
 refine HSp.out.mono ?_
 rintro e w1 ⟨Aw, cw, rfl, hwd, b1⟩
 obtain ⟨g, off, rfl, hgb, hcc⟩ := hwd (by rw [txs_len]; exact HLL.out.1)
 have g0 := hcc 0 (by rw [txs_len]; exact HLL.out.1)
 rw [txs_get _ _ HLL.out.1, ← HLL.out.2, Nat.add_zero] at g0
 have KL1 := KL.out.belowS b1
 have KR1 := KR.out.belowS b1
 have HB1 := Base.Below.nextA HB.out b1
 rw [← HTX.out]
 have l0 := KL1.at 0 (v := .slice A L.1.length c) rfl
 have l1 := KL1.at 1 (v := .slice A' L.2.length c') rfl
 have r0 := KR1.at 0 (v := .slice none 0 0) rfl
 have r1 := KR1.at 1 (v := .slice none 0 0) rfl
 have f0 := KR1.frz 0
 have f1 := KR1.frz 1
 have KK := (KR1.setTo 0 (.slice A L.1.length c) rfl).setTo 1 (.slice A' L.2.length c') rfl
 have k0 := KK.at 0 (v := .slice A L.1.length c) rfl
 have k1 := KK.at 1 (v := .slice A' L.2.length c') rfl
 have hb7 := (HB1.setCell (p := ⟨w.heap.size + 1, 0, none⟩) (Nat.le_succ _) (.slice A L.1.length c)).setCell (p := ⟨w.heap.size + 1, 1, none⟩) (Nat.le_succ _) (.slice A' L.2.length c')
 have HFIN := J (And.intro (labPut2 (HV.out.below HB1) KR1 (.slice A L.1.length c) (.slice A' L.2.length c')) hb7)
 clear b1 KL KR HB HSp HW hcc hwd HTX HLL KK hb7 KL1 KR1 HB1 HV
 go_wp2_with fail
 refine (HWd.out _).mono ?_
 rintro e w' ⟨rfl, rfl⟩
 go_wp2
 refine bodyPost_ret (v := .tuple #[.agg #[.slice A L.1.length c, .slice A' L.2.length c'], .string ⟨#[119, 104, 97, 116]⟩]) (by simp [results, Tryz.results45, go_sem, k0, k1]) rfl ?_
 exact ⟨_, rfl, HFIN.out.1, HFIN.out.2⟩
end LcG
namespace LcS
open Dec LabV Str StM StTx Rd Skip Take Val CutP CarM LcG
open Base
open LvW (nD dD)
open LvQ LvK LvN
open Face hiding FsRet
open LvF (nD_vf)
structure LOk (L : Lb) : Prop where
 len : L.1.length = L.2.length
 six : L.2.length ≤ 6
 nm : ∀ i, i < L.2.length → nameB (L.1.getD i ByteArray.empty) = true
 st : ∀ i, i < L.2.length → (L.2.getD i zeroSt).ok = true
 lt : ∀ i, 0 < i → i < L.2.length → lessS (L.1.getD (i - 1) ByteArray.empty) (L.1.getD i ByteArray.empty) = true
theorem labTo_iff {ss : List ByteArray} {fs : List Int} : ∀ n, labTo ss fs n = true ↔ ∀ i, i < n → entB ss fs i = true
 | 0 => ⟨fun _ i hi => absurd hi (Nat.not_lt_zero i), fun _ => rfl⟩
 | n + 1 => by
  rw [labTo, Bool.and_eq_true, labTo_iff n]
  constructor
  ·rintro ⟨h1, h2⟩ i hi
   by_cases h : i = n
   ·subst h; exact h2
   ·exact h1 i (by omega)
  ·exact fun h => ⟨fun i hi => h i (by omega), h n (Nat.lt_succ_self n)⟩
theorem strB_flat (xs : List St) (j : Nat) : strB (flat xs) j = (xs.getD j zeroSt).ok := by
 unfold strB
 rw [flat_get xs j 0 (by decide), flat_get xs j 1 (by decide), flat_get xs j 2 (by decide), flat_get xs j 3 (by decide), flat_get xs j 4 (by decide), flat_get xs j 5 (by decide), flat_get xs j 6 (by decide)]
 rfl
theorem ent_iff {ss : List ByteArray} {xs : List St} {j : Nat} : entB ss (flat xs) j = true ↔ nameB (ss.getD j ByteArray.empty) = true ∧ (xs.getD j zeroSt).ok = true ∧ (j = 0 ∨ lessS (ss.getD (j - 1) ByteArray.empty) (ss.getD j ByteArray.empty) = true) := by
 unfold entB
 rw [strB_flat, Bool.and_eq_true, Bool.and_eq_true, Bool.or_eq_true, beq_iff_eq]
theorem labR_iff {L : Lb} : labR L = true ↔ LOk L := by
 unfold labR labB
 rw [Bool.and_eq_true, Bool.and_eq_true, decide_eq_true_iff, decide_eq_true_iff, labTo_iff]
 constructor
 ·rintro ⟨h1, h2, h3⟩
  exact ⟨h2, h1, fun i hi => (ent_iff.1 (h3 i hi)).1, fun i hi => (ent_iff.1 (h3 i hi)).2.1, fun i h0 hi => ((ent_iff.1 (h3 i hi)).2.2).resolve_left (by omega)⟩
 ·rintro ⟨h1, h2, h3, h4, h5⟩
  exact ⟨h2, h1, fun i hi => ent_iff.2 ⟨h3 i hi, h4 i hi, by by_cases h : i = 0; exact .inl h; exact .inr (h5 i (by omega) hi)⟩⟩
theorem name_size {s : ByteArray} (h : nameB s = true) : s.size ≤ 10 := by
 unfold nameB at h
 rw [Bool.and_eq_true] at h
 have := h.2
 simp [inR] at this
 omega
theorem LOk.sz {L : Lb} (h : LOk L) : ∀ i, i < L.1.length → (L.1.getD i ByteArray.empty).size ≤ 9223372036854775807 := fun i hi => by
 have := name_size (h.nm i (by have := h.len; omega))
 omega
theorem LOk.six1 {L : Lb} (h : LOk L) : L.1.length ≤ 6 := by have := h.len; have := h.six; omega
theorem find_ok {L : Lb} {x : ByteArray} {r : St} (h : LOk L) (hf : findR L x = some r) : hasS L.1 x = true ∧ posS L.1 x < L.2.length ∧ r = L.2.getD (posS L.1 x) zeroSt ∧ r.ok = true := by
 unfold findR at hf
 split at hf
 ·rename_i hh
  injection hf with hf
  have hp : posS L.1 x < L.2.length := by have := (of_decide_eq_true hh).1; have := h.len; omega
  exact ⟨hh, hp, hf.symm, by rw [← hf]; exact h.st _ hp⟩
 ·cases hf
theorem getD_set {xs : List St} {p i : Nat} {q : St} (hp : p < xs.length) : (xs.set p q).getD i zeroSt = if i = p then q else xs.getD i zeroSt := by
 rw [List.getD_eq_getElem?_getD, List.getD_eq_getElem?_getD, List.getElem?_set]
 by_cases h : p = i
 ·subst h; simp [hp]
 ·rw [if_neg h, if_neg (fun e => h e.symm)]
theorem with_ok {L : Lb} {x : ByteArray} {q : St} (h : LOk L) (hh : hasS L.1 x = true) (hp : posS L.1 x < L.2.length) (hq : q.ok = true) : LOk (withR L x q) := by
 unfold withR
 rw [if_pos hh]
 refine ⟨by simp [h.len], by simp [h.six], fun i hi => h.nm i (by simpa using hi), fun i hi => ?_, fun i h0 hi => h.lt i h0 (by simpa using hi)⟩
 show ((L.2.set (posS L.1 x) q).getD i zeroSt).ok = true
 rw [getD_set hp]
 split
 ·exact hq
 ·exact h.st i (by simpa using hi)
theorem with_self {L : Lb} {x : ByteArray} {r : St} (h : LOk L) (hf : findR L x = some r) : withR L x r = L := by
 obtain ⟨hh, hp, hr, _⟩ := find_ok h hf
 unfold withR
 rw [if_pos hh]
 have : L.2.set (posS L.1 x) r = L.2 := by
  rw [hr, List.getD_eq_getElem?_getD, List.getElem?_eq_getElem hp]
  exact List.set_getElem_self hp
 rw [this]
theorem bl_trans : ∀ x y z : List UInt8, Op.bytesLess x y = true → Op.bytesLess y z = true → Op.bytesLess x z = true
 | _, y, [], _, h2 => by cases y <;> simp [Op.bytesLess] at h2
 | [], _, _ :: _, _, _ => rfl
 | a :: x, [], c :: z, h1, _ => by simp [Op.bytesLess] at h1
 | a :: x, b :: y, c :: z, h1, h2 => by
  simp only [Op.bytesLess, Bool.or_eq_true, Bool.and_eq_true, beq_iff_eq, decide_eq_true_iff] at h1 h2 ⊢
  rcases h1 with h1 | ⟨rfl, h1⟩
  ·rcases h2 with h2 | ⟨rfl, h2⟩
   ·exact .inl (UInt8.lt_trans h1 h2)
   ·exact .inl h1
  ·rcases h2 with h2 | ⟨rfl, h2⟩
   ·exact .inl h2
   ·exact .inr ⟨rfl, bl_trans x y z h1 h2⟩
theorem getD_del {α : Type} {d : α} {xs : List α} {p i : Nat} (hp : p < xs.length) : (xs.take p ++ xs.drop (p + 1)).getD i d = xs.getD (if i < p then i else i + 1) d := by
 rw [List.getD_eq_getElem?_getD, List.getD_eq_getElem?_getD]
 have hl : (xs.take p).length = p := by rw [List.length_take]; omega
 by_cases h : i < p
 ·rw [if_pos h, List.getElem?_append_left (by omega), List.getElem?_take_of_lt h]
 ·rw [if_neg h, List.getElem?_append_right (by omega), hl, List.getElem?_drop]
  congr 2
  omega
theorem gone_ok {L : Lb} {x : ByteArray} (h : LOk L) (hh : hasS L.1 x = true) (hp : posS L.1 x < L.2.length) : LOk (goneR L x) := by
 obtain ⟨p, hpv⟩ : ∃ p, p = posS L.1 x := ⟨_, rfl⟩
 have hl := h.len
 rw [← hpv] at hp
 have hp1 : p < L.1.length := by omega
 unfold goneR
 rw [← hpv]
 have e2 : (L.2.take p ++ L.2.drop (p + 1)).length = L.2.length - 1 := by simp; omega
 refine ⟨by simp; omega, by rw [e2]; have := h.six; omega, fun i hi => ?_, fun i hi => ?_, fun i h0 hi => ?_⟩
 ·rw [e2] at hi
  show nameB ((L.1.take p ++ L.1.drop (p + 1)).getD i _) = true
  rw [getD_del hp1]
  exact h.nm _ (by split <;> omega)
 ·rw [e2] at hi
  show ((L.2.take p ++ L.2.drop (p + 1)).getD i _).ok = true
  rw [getD_del hp]
  exact h.st _ (by split <;> omega)
 ·rw [e2] at hi
  show lessS ((L.1.take p ++ L.1.drop (p + 1)).getD (i - 1) _) ((L.1.take p ++ L.1.drop (p + 1)).getD i _) = true
  rw [getD_del hp1, getD_del hp1]
  by_cases h1 : i < p
  ·rw [if_pos (by omega), if_pos h1]; exact h.lt i h0 (by omega)
  ·rw [if_neg h1]
   by_cases h2 : i - 1 < p
   ·rw [if_pos h2]
    have k1 := h.lt i h0 (by omega)
    have k2 := h.lt (i + 1) (by omega) (by omega)
    rw [Nat.add_sub_cancel] at k2
    exact bl_trans _ _ _ k1 k2
   ·rw [if_neg h2]
    have k2 := h.lt (i + 1) (by omega) (by omega)
    rw [Nat.add_sub_cancel] at k2
    rw [show i - 1 + 1 = i by omega]
    exact k2
theorem facesA_ok {K W T m f a : Int} {n : Nat} {hn : 0 < n} {L' : List Int} {s' : Int} : ∀ (k : Nat) (s : Int) (L : List Int), streamB K W T m f a s = true → n ≤ 1000000 → facesA K W T m f a n hn k s L = some (L', s') → streamB K W T m f a s' = true ∧ (∀ x ∈ L', x ∈ L ∨ (0 ≤ x ∧ x < n)) ∧ L'.length = L.length + k
 | 0, s, L, hB, _, h => by
  unfold facesA at h
  injection h with h
  injection h with h1 h2
  subst h1
  subst h2
  exact ⟨hB, fun x hx => .inl hx, rfl⟩
 | k + 1, s, L, hB, hn2, h => by
  cases hf : faceR K W T m f a s n hn with
  | none => rw [facesA_none hf] at h; cases h
  | some q =>
   obtain ⟨c, u⟩ := q
   rw [facesA_some hf] at h
   obtain ⟨h1, h2, h3⟩ := facesA_ok k _ _ (streamB_takeX hB) hn2 h
   refine ⟨h1, fun x hx => ?_, by rw [h3]; simp; omega⟩
   rcases h2 x hx with h4 | h4
   ·rcases List.mem_append.1 h4 with h5 | h5
    ·exact .inl h5
    ·have := (faceR_bd hn2 hf).1
     rw [List.mem_singleton.1 h5]
     exact .inr ⟨by omega, by omega⟩
   ·exact .inr h4
theorem roll_in {r : St} {n : Int} {xs : List Int} {y : Int} (hv : r.ok = true) (h : facesR r.K r.W r.T r.m r.f r.a r.s n 1 = some (xs, y)) : (r.to y).ok = true ∧ xs.length = 1 ∧ ∀ x ∈ xs, 0 ≤ x ∧ x ≤ 16 := by
 unfold facesR at h
 split at h
 ·rename_i h0
  split at h
  ·rename_i hc
   rw [Bool.and_eq_true, Bool.and_eq_true] at hc
   have hi := hc.2.1
   simp [inR] at hi
   obtain ⟨h1, h2, h3⟩ := facesA_ok _ _ _ hc.1 (by omega) h
   refine ⟨h1, by simpa using h3, fun x hx => ?_⟩
   rcases h2 x hx with h4 | h4
   ·cases h4
   ·omega
  ·cases h
 ·cases h
theorem ordA_ok {K W T m f a : Int} {L' : List Int} {s' : Int} : ∀ (k : Nat) (s : Int) (L : List Int), streamB K W T m f a s = true → ordA K W T m f a k s L = some (L', s') → streamB K W T m f a s' = true
 | 0, s, L, hB, h => by
  unfold ordA at h
  injection h with h
  injection h with h1 h2
  subst h2
  exact hB
 | k + 1, s, L, hB, h => by
  unfold ordA at h
  split at h
  ·cases h
  ·exact ordA_ok k _ _ (streamB_takeX hB) h
theorem swap_in {l : List Int} {i c : Nat} {M : Int} (hM : 0 ≤ M) (h : ∀ x ∈ l, 0 ≤ x ∧ x ≤ M) : ∀ x ∈ Go.Proofs.YtgipnbeipfhekaaGreatDoor.Shuf.swapL l i c, 0 ≤ x ∧ x ≤ M := fun x hx => by
 have hd : ∀ j, 0 ≤ l.getD j 0 ∧ l.getD j 0 ≤ M := fun j => by
  rw [List.getD_eq_getElem?_getD]
  cases hj : l[j]? with
  | none => exact ⟨Int.le_refl _, hM⟩
  | some y => exact h y (List.mem_of_getElem? hj)
 unfold Go.Proofs.YtgipnbeipfhekaaGreatDoor.Shuf.swapL at hx
 rcases List.mem_or_eq_of_mem_set hx with h1 | h1
 ·rcases List.mem_or_eq_of_mem_set h1 with h2 | h2
  ·exact h x h2
  ·rw [h2]; exact hd c
 ·rw [h1]; exact hd i
theorem shuf_in (n : Nat) (ch : List Int) : ∀ j, ∀ x ∈ Go.Proofs.YtgipnbeipfhekaaGreatDoor.Shuf.shufTo n ch j, 0 ≤ x ∧ x ≤ (n : Int)
 | 0, x, hx => by
  unfold Go.Proofs.YtgipnbeipfhekaaGreatDoor.Shuf.shufTo Go.Proofs.YtgipnbeipfhekaaGreatDoor.Shuf.ascL at hx
  obtain ⟨i, hi, rfl⟩ := List.mem_map.1 hx
  have := List.mem_range.1 hi
  omega
 | j + 1, x, hx => swap_in (by omega) (shuf_in n ch j) x hx
theorem cards_in {r : St} {n : Int} {xs : List Int} {y : Int} (hv : r.ok = true) (h : ordR r.K r.W r.T r.m r.f r.a r.s n = some (xs, y)) : (r.to y).ok = true ∧ xs.length ≤ 12 ∧ ∀ x ∈ xs, 0 ≤ x ∧ x ≤ 16 := by
 unfold ordR at h
 split at h
 ·rename_i hc
  rw [Bool.and_eq_true] at hc
  have hi := hc.2
  simp [inR] at hi
  unfold ordOf at h
  cases hA : ordA r.K r.W r.T r.m r.f r.a (n.toNat - 1) r.s [] with
  | none => rw [hA] at h; cases h
  | some q =>
   rw [hA] at h
   injection h with h
   injection h with h1 h2
   subst h1
   have h3 := ordA_ok (L' := q.1) (s' := q.2) _ _ _ hc.1 hA
   rw [h2] at h3
   refine ⟨h3, by rw [Go.Proofs.YtgipnbeipfhekaaGreatDoor.Shuf.shufTo_len]; omega, fun x hx => ?_⟩
   have := shuf_in _ _ _ x hx
   omega
 ·cases h
theorem tail_len (s : Tx) (B : Nat) : ∀ r : List Tx, (∀ x ∈ r, x.length ≤ B) → (Lib.joinTail s r).length ≤ r.length * (s.length + B)
 | [], _ => by simp [Lib.joinTail]
 | x :: r, h => by
  have ih := tail_len s B r fun y hy => h y (List.mem_cons_of_mem _ hy)
  have hx := h x List.mem_cons_self
  unfold Lib.joinTail at ih ⊢
  rw [List.map_cons, List.flatten_cons, List.length_append, List.length_append, List.length_cons, Nat.succ_mul]
  omega
theorem join_len {s : Tx} {B : Nat} {ls : List Tx} (h : ∀ x ∈ ls, x.length ≤ B) : (Lib.join ls s).length ≤ ls.length * (s.length + B) := by
 cases ls with
 | nil => simp [Lib.join_nil]
 | cons x r =>
  have ih := tail_len s B r fun y hy => h y (List.mem_cons_of_mem _ hy)
  have hx := h x List.mem_cons_self
  rw [Lib.join_cons, List.length_append, List.length_cons, Nat.succ_mul]
  omega
theorem dec_in {x : Int} (h : x ≤ 1000000000000000000) : (decI x).length ≤ 20 := dec_len (u := x.toNat) (by omega)
theorem list_len {xs : List Int} (hl : xs.length ≤ 12) (h : ∀ x ∈ xs, 0 ≤ x ∧ x ≤ 16) : (Lib.join (xs.map decI) [44]).length ≤ 400 := by
 have := join_len (s := [44]) (B := 20) (ls := xs.map decI) (fun y hy => by obtain ⟨x, hx, rfl⟩ := List.mem_map.1 hy; exact dec_in (by have := h x hx; omega))
 rw [List.length_map] at this
 have h2 : xs.length * ([44].length + 20) ≤ 12 * 21 := Nat.mul_le_mul_right _ hl
 omega
theorem part_in {n x : Nat} (hx : x ≤ 2 ^ n) (hn : n ≤ 50) : 0 ≤ nD n x ∧ nD n x ≤ 1000000000000000000 ∧ 0 ≤ dD n x ∧ dD n x ≤ 1000000000000000000 := by
 have hv := nD_vf hx hn
 obtain ⟨e1, e2⟩ := dy_numQ hx hn
 obtain ⟨p1, p2⟩ := dy_parts n x
 have h1 : nD n x = ((x / Nat.gcd x (2 ^ n) : Nat) : Int) := by unfold nD; rw [e1, p1]
 refine ⟨?_, hv.2.2.2.1, ?_, hv.2.1⟩
 ·rw [h1]; exact Int.natCast_nonneg _
 ·have := hv.1; omega
theorem res_in {r : St} {n : Int} (hok : okL r.K r.W r.T r.m r.f r.a r.s n = true) : (resL r.K r.W r.T r.m r.f r.a r.s n).length = 6 ∧ ∀ i, 0 ≤ (resL r.K r.W r.T r.m r.f r.a r.s n).getD i 0 ∧ (resL r.K r.W r.T r.m r.f r.a r.s n).getD i 0 ≤ 1000000000000000000 := by
 unfold resL
 rw [if_pos hok]
 unfold okL at hok
 rw [Bool.and_eq_true] at hok
 have hi := hok.2
 simp [inR] at hi
 obtain ⟨k, rfl⟩ := Int.eq_ofNat_of_zero_le (show 0 ≤ n by omega)
 obtain ⟨s, hs⟩ : ∃ s, s = txtL r.K r.W r.T r.m r.f r.a r.s (k : Int) := ⟨_, rfl⟩
 have hz : s.size = k := by rw [hs]; unfold txtL; rw [takeL_size]; rfl
 rw [← hs]
 have h1 : 1 ≤ s.size := by omega
 have hn : s.size ≤ 50 := by omega
 have pA := part_in (upS_le (onesC_ok s.size) ((onesC s.size).c (LvR.onesTo (LvJ.byt s) s.size)) (Nat.le_refl _)) hn
 have pB := part_in (upS_le (runsC_ok h1) ((runsC s.size).c ((LvR.runsTo (LvJ.byt s) s.size).length - 1)) (Nat.le_refl _)) hn
 have pC := part_in (upS_le (lenC_ok h1) ((lenC s.size).c ((LvR.mostR (LvJ.byt s) s.size).toNat - 1)) (Nat.le_refl _)) hn
 refine ⟨rfl, fun i => ?_⟩
 unfold lvF lvA lvB lvC
 match i with
 | 0 => exact ⟨pA.1, pA.2.1⟩
 | 1 => exact ⟨pA.2.2.1, pA.2.2.2⟩
 | 2 => exact ⟨pB.1, pB.2.1⟩
 | 3 => exact ⟨pB.2.2.1, pB.2.2.2⟩
 | 4 => exact ⟨pC.1, pC.2.1⟩
 | 5 => exact ⟨pC.2.2.1, pC.2.2.2⟩
 | i + 6 => simp
theorem frac_len {p q : Int} (hp : p ≤ 1000000000000000000) (hq : q ≤ 1000000000000000000) : (fracR p q).length ≤ 50 := by
 have h1 := dec_in hp
 have h2 := dec_in hq
 unfold fracR
 split
 ·omega
 ·simp; omega
theorem fracs_mem {R : List Int} (hR : ∀ i, 0 ≤ R.getD i 0 ∧ R.getD i 0 ≤ 1000000000000000000) : ∀ k, ∀ x ∈ fracsR R k, x.length ≤ 50
 | 0, x, hx => by cases hx
 | k + 1, x, hx => by
  unfold fracsR at hx
  rcases List.mem_append.1 hx with h | h
  ·exact fracs_mem hR k x h
  ·rw [List.mem_singleton.1 h]; exact frac_len (hR _).2 (hR _).2
theorem fracs_len {R : List Int} (hR : ∀ i, 0 ≤ R.getD i 0 ∧ R.getD i 0 ≤ 1000000000000000000) {k : Nat} (hk : k ≤ 3) : (Lib.join (fracsR R k) [32]).length ≤ 400 := by
 have h := join_len (s := [32]) (fracs_mem hR k)
 rw [fracsR_len] at h
 have h2 : k * ([32].length + 50) ≤ 3 * 51 := Nat.mul_le_mul_right _ hk
 omega
end LcS
end Go.Proofs.YtgipnbeipfhekaaGreatDoor

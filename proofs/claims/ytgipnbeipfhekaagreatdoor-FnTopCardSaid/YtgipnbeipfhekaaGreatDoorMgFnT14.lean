/- What is drawn is valid: one of some numbers, a congruence. -/
import Derived.Test.YtgipnbeipfhekaaGreatDoorMgFnT01
import Derived.Test.YtgipnbeipfhekaaGreatDoorMgFnT04
import Derived.Test.YtgipnbeipfhekaaGreatDoorMgFnT05
import Derived.Deep.RegionHeld3
import Derived.Test.YtgipnbeipfhekaaGreatDoorMgFnT00
import Derived.Test.YtgipnbeipfhekaaGreatDoorMgFnT02
namespace Go.Proofs.YtgipnbeipfhekaaGreatDoor.Draw
open Go.RowKit Go.Proofs.YtgipnbeipfhekaaGreatDoor Go.Proofs.YtgipnbeipfhekaaGreatDoor.Base Go.Proofs.YtgipnbeipfhekaaGreatDoor.Mem Go.Proofs.YtgipnbeipfhekaaGreatDoor.Src Go.Proofs.YtgipnbeipfhekaaGreatDoor.Blk Go.Proofs.YtgipnbeipfhekaaGreatDoor.Pow
set_option linter.unusedVariables false
theorem Src.set' {w : World} {p K : Nat} (h : Src w p K) {a : Addr} (ha : p < a.block) (v : Value) : Src (w.setCell a v) p K := h.kept (grown_setCell w a v) fun g e => by cases e; exact ha
theorem Src.apart {w w' : World} {p q K : Nat} {t : TypeId} {cs : Array Value} (h : Src w p K) (hb : Blk w q t cs) (hcs : ∀ (i : Nat) (n : Int), cs[i]? ≠ some (.int .u8 n)) (hq : q ≠ p) (hg : w.grownBy w' (some q)) : Src w' p K := by
 have hp := h.lt
 obtain ⟨A, c, zs, a, sd, h0, h1, h2, hf, h3, h4, h5, h6, h7, h8⟩ := h.ex
 have hk : ∀ g, g < w.heap.size → g ≠ q → w'.heap[g]? = w.heap[g]? := fun g h1 h2 => hg.block g h1 fun e => h2 (Option.some.inj e)
 have hc : ∀ i, w'.cell? ⟨p, i, none⟩ = w.cell? ⟨p, i, none⟩ := fun i => World.cell?_of_block (a := ⟨p, i, none⟩) (hk p hp (Ne.symm hq))
 refine ⟨A, c, zs, a, sd, (hc 0).trans h0, (hc 1).trans h1, (hc 2).trans h2, fun i => (World.frozen?_of_block (a := ⟨p, i, none⟩) (hk p hp (Ne.symm hq))).trans (hf i), h3, h4, h5, h6, h7, fun hl => ?_⟩
 obtain ⟨b, off, e, hlt, hcell⟩ := h8 hl
 have hbq : b ≠ q := fun e2 => by
  subst e2
  have := hcell 0 hl
  rw [hb.cell] at this
  exact hcs _ _ this
 exact ⟨b, off, e, hlt, fun i hi => (World.cell?_of_block (a := ⟨b, off + i, none⟩) (hk b (by omega) hbq)).trans (hcell i hi)⟩
theorem no8 {a b c : Int} : ∀ (i : Nat) (n : Int), (#[Value.int .i64 a, .int .i64 b, .int .i64 c] : Array Value)[i]? ≠ some (.int .u8 n) := fun i n h => by
 match i with
 | 0 => simp at h
 | 1 => simp at h
 | 2 => simp at h
 | i + 3 => simp at h
theorem Src.put3 {w : World} {p q K : Nat} {t : TypeId} {a b c x y z : Int} (h : Src w p K) (hb : Blk w q t #[.int .i64 a, .int .i64 b, .int .i64 c]) (hq : q ≠ p) : Src (put3 w q (.int .i64 x) (.int .i64 y) (.int .i64 z)) p K :=
 Src.apart (Src.apart (Src.apart h hb no8 hq (grown_setCell w ⟨q, 0, none⟩ _)) (hb.setTo 0 _ rfl) no8 hq (grown_setCell _ ⟨q, 1, none⟩ _)) ((hb.setTo 0 _ rfl).setTo 1 _ rfl) no8 hq (grown_setCell _ ⟨q, 2, none⟩ _)
def AmongRet (p K : Nat) (xs : List Int) (w : World) (e : Ending) (w' : World) : Prop := ∃ r : Nat, e = .returned (.int .i64 (xs.getD r 0)) ∧ r < xs.length ∧ Src w' p K ∧ w.grownBy w' (some p)
set_option maxHeartbeats 1000000 in
set_option maxRecDepth 100000 in
theorem among_any (p K b c : Nat) (xs : List Int) (w : World) (h : Src w p K) (hK : K ≤ 1000000000000) (hb : b ≠ p) (hlt : b < w.heap.size) (hl : 1 ≤ xs.length) (hm : xs.length ≤ 1000000) (hc : ∀ i, i < xs.length → w.cell? ⟨b, i, none⟩ = some (.int .i64 (xs.getD i 0))) :
  Calls Tryz.prog 115 #[.pointer (some ⟨p, 0, none⟩), .slice (some ⟨b, 0, none⟩) xs.length c] w (AmongRet p (K + 2) xs w) := by
 have HP := Lib.hid (pick_any p K xs.length w h hK)
 have HCc := Lib.hid hc
 clear h hc
 go_enter Tryz.func115, Tryz.ntmps115
 go_wp2_with fail
 refine HP.out.mono ?_
 rintro e w1 ⟨r, rfl, hr, s1, g1⟩
 have hr' : r < xs.length := by omega
 have hcell : w1.cell? ⟨b, r, none⟩ = some (.int .i64 (xs.getD r 0)) := (World.cell?_of_block (a := ⟨b, r, none⟩) (g1.block b hlt fun e => hb (Option.some.inj e))).trans (HCc.out r hr')
 have S1 := Lib.hid s1
 have G1 := Lib.hid g1
 clear s1 g1 hr
 have HR : Hid (∀ v, v = xs.getD r 0 → AmongRet p (K + 2) xs w (.returned (.int .i64 v)) w1) := Lib.hid fun v hv => ⟨r, by rw [hv], hr', S1.out, G1.out⟩
 generalize xs.getD r 0 = v at *
 go_wp2
 go_ret
 exact HR.out _ rfl
def CongRet (p K : Nat) (w : World) (e : Ending) (w' : World) : Prop := ∃ m f a : Nat, 2 ≤ m ∧ m ≤ 5000 ∧ f < m ∧ a < m ∧ e = .returned (.agg #[.int .i64 ((m : Nat) : Int), .int .i64 ((f : Nat) : Int), .int .i64 ((a : Nat) : Int)]) ∧ Src w' p K ∧ Beside p w w'
theorem End.plain {p K m f a : Nat} {w w8 : World} (hm : 2 ≤ m) (hm2 : m ≤ 5000) (hf : f < m) (ha : a < m) (hb : Beside p w w8) (hr : Blk w8 w.heap.size 27 #[.int .i64 0, .int .i64 0, .int .i64 0]) (hs : Src w8 p K) (hp : p < w.heap.size) :
  let w9 := ((w8.setCell ⟨w.heap.size, 0, none⟩ (.int .i64 (m : Int))).setCell ⟨w.heap.size, 1, none⟩ (.int .i64 (f : Int))).setCell ⟨w.heap.size, 2, none⟩ (.int .i64 (a : Int))
  w9.cell? ⟨w.heap.size, 0, none⟩ = some (.int .i64 (m : Int)) ∧ w9.cell? ⟨w.heap.size, 1, none⟩ = some (.int .i64 (f : Int)) ∧ w9.cell? ⟨w.heap.size, 2, none⟩ = some (.int .i64 (a : Int)) ∧ CongRet p K w (.returned (.agg #[.int .i64 ((m : Nat) : Int), .int .i64 ((f : Nat) : Int), .int .i64 ((a : Nat) : Int)])) w9 := by
 have S := hr.set3 (.int .i64 (m : Int)) (.int .i64 (f : Int)) (.int .i64 (a : Int))
 refine ⟨S.at 0 rfl, S.at 1 rfl, S.at 2 rfl, m, f, a, hm, hm2, hf, ha, rfl, ?_, ?_⟩
 ·exact Src.set' (Src.set' (Src.set' hs (a := ⟨w.heap.size, 0, none⟩) hp _) (a := ⟨w.heap.size, 1, none⟩) hp _) (a := ⟨w.heap.size, 2, none⟩) hp _
 ·exact ((hb.set (a := ⟨w.heap.size, 0, none⟩) (Nat.le_refl _) _).set (a := ⟨w.heap.size, 1, none⟩) (Nat.le_refl _) _).set (a := ⟨w.heap.size, 2, none⟩) (Nat.le_refl _) _
theorem End.half {p K m F a b : Nat} {w w8 : World} (hm : 2 ≤ m) (hm2 : m ≤ 5000) (ha : a < m) (h4 : 4 < m) (hb : Beside p w w8) (hr : Blk w8 w.heap.size 27 #[.int .i64 0, .int .i64 0, .int .i64 0]) (hs : Src w8 p K) (hp : p < w.heap.size) (hbb : w.heap.size < b) :
  let w9 := (((w8.setCell ⟨b, 1, none⟩ (.int .i64 (1 + (m : Int) / 2))).setCell ⟨w.heap.size, 0, none⟩ (.int .i64 (m : Int))).setCell ⟨w.heap.size, 1, none⟩ (.int .i64 (1 + (m : Int) / 2))).setCell ⟨w.heap.size, 2, none⟩ (.int .i64 (a : Int))
  w9.cell? ⟨w.heap.size, 0, none⟩ = some (.int .i64 (m : Int)) ∧ w9.cell? ⟨w.heap.size, 1, none⟩ = some (.int .i64 ((1 + m / 2 : Nat) : Int)) ∧ w9.cell? ⟨w.heap.size, 2, none⟩ = some (.int .i64 (a : Int)) ∧ CongRet p K w (.returned (.agg #[.int .i64 ((m : Nat) : Int), .int .i64 ((1 + m / 2 : Nat) : Int), .int .i64 ((a : Nat) : Int)])) w9 := by
 have e : (1 : Int) + (m : Int) / 2 = ((1 + m / 2 : Nat) : Int) := by simp
 rw [e]
 exact End.plain (f := 1 + m / 2) hm hm2 (by omega) ha (hb.set (a := ⟨b, 1, none⟩) (Nat.le_of_lt hbb) _) (hr.other (a := ⟨b, 1, none⟩) _ (by show b ≠ w.heap.size; omega)) (Src.set' hs (a := ⟨b, 1, none⟩) (by show p < b; omega) _) hp
theorem lits_cell {W : World} {b : Nat} {xs : List Int} (h : Blk W b 2 (ints xs).toArray) : ∀ i, i < xs.length → W.cell? ⟨b, i, none⟩ = some (.int .i64 (xs.getD i 0)) := fun i hi => by
 rw [h.cell i, List.getElem?_toArray, ints_get xs i hi]
set_option maxHeartbeats 1000000 in
set_option maxRecDepth 100000 in
theorem l03DrawOk_any (p K : Nat) (w : World) (h : Src w p K) (hK : K ≤ 100000000000) :
  Calls Tryz.prog 65 #[.pointer (some ⟨p, 0, none⟩)] w (CongRet p (K + 12) w) := by
 have hp := h.lt
 obtain ⟨W0, hW0⟩ : ∃ W0, W0 = w.alloc (.cells #[.int .i64 0, .int .i64 0, .int .i64 0] 27) := ⟨_, rfl⟩
 have B0 : Beside p w W0 := by rw [hW0]; exact (Beside.refl p w).alloc _
 have R0 : Blk W0 w.heap.size 27 #[.int .i64 0, .int .i64 0, .int .i64 0] := by rw [hW0]; exact Blk.new _ _ _
 have S0 : Src W0 p K := by rw [hW0]; exact h.below ((Below.refl _ _).alloc (Nat.le_refl _) _)
 have HW := Lib.hid hW0
 have HB0 := Lib.hid B0
 have HR0 := Lib.hid R0
 have HP := Lib.hid (pick_any p K 60 W0 S0 (by omega))
 clear hW0 B0 R0 S0 h
 go_enter Tryz.func65, Tryz.ntmps65
 go_wp2_with fail
 rw [← HW.out]
 refine HP.out.mono ?_
 rintro e w1 ⟨r1, rfl, hr1, s1, g1⟩
 have B1 := Lib.hid (HB0.out.trans (Beside.grown g1))
 have R1 := Lib.hid (HR0.out.src g1 (by omega))
 have HP2 := Lib.hid (pick_any p (K + 2) 8 w1 s1 (by omega))
 clear s1 g1
 go_wp2_with fail
 refine HP2.out.mono ?_
 rintro e w2 ⟨r2, rfl, hr2, s2, g2⟩
 have B2 := Lib.hid (B1.out.trans (Beside.grown g2))
 have R2 := Lib.hid (R1.out.src g2 (by omega))
 have S2 := Lib.hid s2
 clear s2 g2 B1 R1 HB0 HR0
 by_cases h0 : r2 = 0
 ·subst h0
  have HP3 := Lib.hid (pick_any p (K + 4) 4000 w2 S2.out (by omega))
  go_wp2_with fail
  refine HP3.out.mono ?_
  rintro e w3 ⟨r3, rfl, hr3, s3, g3⟩
  obtain ⟨M, hM⟩ : ∃ M : Nat, (2 : Int) + (r3 : Int) = (M : Int) := ⟨2 + r3, by simp⟩
  have hM2 : 2 ≤ M := by omega
  have hM5 : M ≤ 5000 := by omega
  have S3 := Lib.hid s3
  have B3 := Lib.hid (B2.out.trans (Beside.grown g3))
  have R3 := Lib.hid (R2.out.src g3 (by omega))
  clear s3 g3 hr3 hr1 hr2
  have HP4 := Lib.hid (pick_any p (K + 6) M w3 S3.out (by omega))
  go_wp2_with fail
  refine HP4.out.mono ?_
  rintro e w4 ⟨F, rfl, hF, s4, g4⟩
  have hF2 : F < M := by omega
  have B4 := B3.out.trans (Beside.grown g4)
  have R4 := R3.out.src g4 (by omega)
  have hz4 := R4.lt
  have hp4 : p < w4.heap.size := by omega
  obtain ⟨W4, hW4⟩ : ∃ W4, W4 = w4.alloc (.cells #[.int .i64 (M : Int), .int .i64 (F : Int), .int .i64 0] 27) := ⟨_, rfl⟩
  have B5 : Beside p w W4 := by rw [hW4]; exact B4.alloc _
  have R5 : Blk W4 w.heap.size 27 #[.int .i64 0, .int .i64 0, .int .i64 0] := by rw [hW4]; exact R4.alloc _
  have S5 : Src W4 p (K + 8) := by rw [hW4]; exact s4.below ((Below.refl _ _).alloc (Nat.le_refl _) _)
  have N5 : Blk W4 w4.heap.size 27 #[.int .i64 (M : Int), .int .i64 (F : Int), .int .i64 0] := by rw [hW4]; exact Blk.new _ _ _
  have HW4 := Lib.hid hW4
  have HP5 := Lib.hid (pick_any p (K + 8) M W4 S5 (by omega))
  have HB5 := Lib.hid B5
  have HR5 := Lib.hid R5
  have HN5 := Lib.hid N5
  clear s4 g4 B4 R4 hW4 B5 R5 S5 N5 hF
  go_wp2_with fail
  rw [← HW4.out]
  refine HP5.out.mono ?_
  rintro e w6 ⟨A, rfl, hA, s6, g6⟩
  have hA2 : A < M := by omega
  have B6 := HB5.out.trans (Beside.grown g6)
  have R6 := HR5.out.src g6 (by omega)
  have N6 := HN5.out.src g6 (by omega)
  have n60 := N6.at 0 (v := .int .i64 (M : Int)) rfl
  have n61 := N6.at 1 (v := .int .i64 (F : Int)) rfl
  have n62 := N6.at 2 (v := .int .i64 0) rfl
  have f60 := N6.frz 0
  have f61 := N6.frz 1
  have f62 := N6.frz 2
  obtain ⟨w7, hw7⟩ : ∃ w7, w7 = w6.setCell ⟨w4.heap.size, 2, none⟩ (.int .i64 (A : Int)) := ⟨_, rfl⟩
  have B7 : Beside p w w7 := by rw [hw7]; exact B6.set (by show w.heap.size ≤ w4.heap.size; omega) _
  have R7 : Blk w7 w.heap.size 27 #[.int .i64 0, .int .i64 0, .int .i64 0] := by rw [hw7]; exact R6.other _ (by show w4.heap.size ≠ w.heap.size; omega)
  have N7 : Blk w7 w4.heap.size 27 #[.int .i64 ((M : Nat) : Int), .int .i64 ((F : Nat) : Int), .int .i64 ((A : Nat) : Int)] := by rw [hw7]; exact N6.setTo 2 _ rfl
  have S7 : Src w7 p (K + 10) := by rw [hw7]; exact Src.set' s6 (by show p < w4.heap.size; omega) _
  have HW7 := Lib.hid hw7
  have HP7 := Lib.hid (one_any p (K + 10) 4 w7 S7 (by omega))
  have HB7 := Lib.hid B7
  have HR7 := Lib.hid R7
  have HN7 := Lib.hid N7
  clear s6 g6 B6 R6 N6 hw7 B7 R7 S7 N7 hA
  go_wp2_with fail
  rw [← HW7.out]
  refine HP7.out.mono ?_
  rintro e w8 ⟨r8, rfl, s8, g8⟩
  clear n60 n61 n62 f60 f61 f62
  have B8 := HB7.out.trans (Beside.grown g8)
  have R8 := HR7.out.src g8 (by omega)
  have N8 := HN7.out.src g8 (by omega)
  have r80 := R8.at 0 (v := .int .i64 0) rfl
  have r81 := R8.at 1 (v := .int .i64 0) rfl
  have r82 := R8.at 2 (v := .int .i64 0) rfl
  have f80 := R8.frz 0
  have f81 := R8.frz 1
  have f82 := R8.frz 2
  have n80 := N8.at 0 (v := .int .i64 (M : Int)) rfl
  have n81 := N8.at 1 (v := .int .i64 (F : Int)) rfl
  have n82 := N8.at 2 (v := .int .i64 (A : Int)) rfl
  have h80 := N8.frz 0
  have h81 := N8.frz 1
  have h82 := N8.frz 2
  have hne : w4.heap.size ≠ w.heap.size := by omega
  have hne2 : w.heap.size ≠ w4.heap.size := by omega
  have HD0 := Lib.hid (End.plain (K := K + 12) hM2 hM5 hF2 hA2 B8 R8 s8 hp)
  have HD1 := Lib.hid (fun h4 => End.half (F := F) (K := K + 12) hM2 hM5 hA2 h4 B8 R8 s8 hp (b := w4.heap.size) (by omega))
  clear B8 R8 N8 s8 g8
  cases r8 with
  | false =>
   go_wp2
   obtain ⟨q0, q1, q2, q3⟩ := HD0.out
   exact bodyPost_ret (v := .agg #[.int .i64 ((M : Nat) : Int), .int .i64 ((F : Nat) : Int), .int .i64 ((A : Nat) : Int)]) (by simp [results, Tryz.results65, go_sem, q0, q1, q2]) rfl q3
  | true =>
   by_cases h4 : (M : Int) > 4
   ·go_wp2
    obtain ⟨q0, q1, q2, q3⟩ := HD1.out (by omega)
    exact bodyPost_ret (v := .agg #[.int .i64 ((M : Nat) : Int), .int .i64 ((1 + M / 2 : Nat) : Int), .int .i64 ((A : Nat) : Int)]) (by simp [results, Tryz.results65, go_sem, q0, q1, q2]) rfl q3
   ·go_wp2
    obtain ⟨q0, q1, q2, q3⟩ := HD0.out
    exact bodyPost_ret (v := .agg #[.int .i64 ((M : Nat) : Int), .int .i64 ((F : Nat) : Int), .int .i64 ((A : Nat) : Int)]) (by simp [results, Tryz.results65, go_sem, q0, q1, q2]) rfl q3
 ·by_cases h1 : r2 = 1
  ·subst h1
   obtain ⟨W2, hW2⟩ : ∃ W2, W2 = w2.alloc (.cells #[.int .i64 16, .int .i64 64, .int .i64 256, .int .i64 100, .int .i64 81, .int .i64 31, .int .i64 127] 2) := ⟨_, rfl⟩
   have hz2 := R2.out.lt
   have S2' : Src W2 p (K + 4) := by rw [hW2]; exact S2.out.below ((Below.refl _ _).alloc (Nat.le_refl _) _)
   have hcs : ∀ i, i < [16, 64, 256, 100, 81, 31, 127].length → W2.cell? ⟨w2.heap.size, i, none⟩ = some (.int .i64 (([16, 64, 256, 100, 81, 31, 127] : List Int).getD i 0)) := by
    rw [hW2]; exact lits_cell (xs := [16, 64, 256, 100, 81, 31, 127]) (Blk.new w2 2 _)
   have HP3 := Lib.hid (among_any p (K + 4) w2.heap.size 7 [16, 64, 256, 100, 81, 31, 127] W2 S2' (by omega) (by omega) (by rw [hW2]; simp) (by decide) (by decide) hcs)
   have BW2 := Lib.hid (show Beside p w W2 by rw [hW2]; exact B2.out.alloc _)
   have RW2 := Lib.hid (show Blk W2 w.heap.size 27 #[.int .i64 0, .int .i64 0, .int .i64 0] by rw [hW2]; exact R2.out.alloc _)
   have HW2 := Lib.hid hW2
   clear hW2 S2' hcs
   go_wp2_with fail
   rw [← HW2.out]
   refine HP3.out.mono ?_
   rintro e w3 ⟨r3, rfl, hr3, s3, g3⟩
   have hv : ∀ r, r < 7 → 2 ≤ ([16, 64, 256, 100, 81, 31, 127] : List Int).getD r 0 ∧ ([16, 64, 256, 100, 81, 31, 127] : List Int).getD r 0 ≤ 5000 := by decide
   obtain ⟨hv1, hv2⟩ := hv r3 hr3
   generalize ([16, 64, 256, 100, 81, 31, 127] : List Int).getD r3 0 = v at *
   obtain ⟨M, rfl⟩ := Int.eq_ofNat_of_zero_le (show 0 ≤ v by omega)
   have hM2 : 2 ≤ M := by omega
   have hM5 : M ≤ 5000 := by omega
   have S3 := Lib.hid s3
   have B3 := Lib.hid (BW2.out.trans (Beside.grown g3))
   have R3 := Lib.hid (RW2.out.src g3 (by omega))
   clear s3 g3 hr3 hr1 hr2 hv hv1 hv2
   have HP4 := Lib.hid (pick_any p (K + 6) M w3 S3.out (by omega))
   go_wp2_with fail
   refine HP4.out.mono ?_
   rintro e w4 ⟨F, rfl, hF, s4, g4⟩
   have hF2 : F < M := by omega
   have B4 := B3.out.trans (Beside.grown g4)
   have R4 := R3.out.src g4 (by omega)
   have hz4 := R4.lt
   have hp4 : p < w4.heap.size := by omega
   obtain ⟨W4, hW4⟩ : ∃ W4, W4 = w4.alloc (.cells #[.int .i64 (M : Int), .int .i64 (F : Int), .int .i64 0] 27) := ⟨_, rfl⟩
   have B5 : Beside p w W4 := by rw [hW4]; exact B4.alloc _
   have R5 : Blk W4 w.heap.size 27 #[.int .i64 0, .int .i64 0, .int .i64 0] := by rw [hW4]; exact R4.alloc _
   have S5 : Src W4 p (K + 8) := by rw [hW4]; exact s4.below ((Below.refl _ _).alloc (Nat.le_refl _) _)
   have N5 : Blk W4 w4.heap.size 27 #[.int .i64 (M : Int), .int .i64 (F : Int), .int .i64 0] := by rw [hW4]; exact Blk.new _ _ _
   have HW4 := Lib.hid hW4
   have HP5 := Lib.hid (pick_any p (K + 8) M W4 S5 (by omega))
   have HB5 := Lib.hid B5
   have HR5 := Lib.hid R5
   have HN5 := Lib.hid N5
   clear s4 g4 B4 R4 hW4 B5 R5 S5 N5 hF
   go_wp2_with fail
   rw [← HW4.out]
   refine HP5.out.mono ?_
   rintro e w6 ⟨A, rfl, hA, s6, g6⟩
   have hA2 : A < M := by omega
   have B6 := HB5.out.trans (Beside.grown g6)
   have R6 := HR5.out.src g6 (by omega)
   have N6 := HN5.out.src g6 (by omega)
   have n60 := N6.at 0 (v := .int .i64 (M : Int)) rfl
   have n61 := N6.at 1 (v := .int .i64 (F : Int)) rfl
   have n62 := N6.at 2 (v := .int .i64 0) rfl
   have f60 := N6.frz 0
   have f61 := N6.frz 1
   have f62 := N6.frz 2
   obtain ⟨w7, hw7⟩ : ∃ w7, w7 = w6.setCell ⟨w4.heap.size, 2, none⟩ (.int .i64 (A : Int)) := ⟨_, rfl⟩
   have B7 : Beside p w w7 := by rw [hw7]; exact B6.set (by show w.heap.size ≤ w4.heap.size; omega) _
   have R7 : Blk w7 w.heap.size 27 #[.int .i64 0, .int .i64 0, .int .i64 0] := by rw [hw7]; exact R6.other _ (by show w4.heap.size ≠ w.heap.size; omega)
   have N7 : Blk w7 w4.heap.size 27 #[.int .i64 ((M : Nat) : Int), .int .i64 ((F : Nat) : Int), .int .i64 ((A : Nat) : Int)] := by rw [hw7]; exact N6.setTo 2 _ rfl
   have S7 : Src w7 p (K + 10) := by rw [hw7]; exact Src.set' s6 (by show p < w4.heap.size; omega) _
   have HW7 := Lib.hid hw7
   have HP7 := Lib.hid (one_any p (K + 10) 4 w7 S7 (by omega))
   have HB7 := Lib.hid B7
   have HR7 := Lib.hid R7
   have HN7 := Lib.hid N7
   clear s6 g6 B6 R6 N6 hw7 B7 R7 S7 N7 hA
   go_wp2_with fail
   rw [← HW7.out]
   refine HP7.out.mono ?_
   rintro e w8 ⟨r8, rfl, s8, g8⟩
   clear n60 n61 n62 f60 f61 f62
   have B8 := HB7.out.trans (Beside.grown g8)
   have R8 := HR7.out.src g8 (by omega)
   have N8 := HN7.out.src g8 (by omega)
   have r80 := R8.at 0 (v := .int .i64 0) rfl
   have r81 := R8.at 1 (v := .int .i64 0) rfl
   have r82 := R8.at 2 (v := .int .i64 0) rfl
   have f80 := R8.frz 0
   have f81 := R8.frz 1
   have f82 := R8.frz 2
   have n80 := N8.at 0 (v := .int .i64 (M : Int)) rfl
   have n81 := N8.at 1 (v := .int .i64 (F : Int)) rfl
   have n82 := N8.at 2 (v := .int .i64 (A : Int)) rfl
   have h80 := N8.frz 0
   have h81 := N8.frz 1
   have h82 := N8.frz 2
   have hne : w4.heap.size ≠ w.heap.size := by omega
   have hne2 : w.heap.size ≠ w4.heap.size := by omega
   have HD0 := Lib.hid (End.plain (K := K + 12) hM2 hM5 hF2 hA2 B8 R8 s8 hp)
   have HD1 := Lib.hid (fun h4 => End.half (F := F) (K := K + 12) hM2 hM5 hA2 h4 B8 R8 s8 hp (b := w4.heap.size) (by omega))
   clear B8 R8 N8 s8 g8
   cases r8 with
   | false =>
    go_wp2
    obtain ⟨q0, q1, q2, q3⟩ := HD0.out
    exact bodyPost_ret (v := .agg #[.int .i64 ((M : Nat) : Int), .int .i64 ((F : Nat) : Int), .int .i64 ((A : Nat) : Int)]) (by simp [results, Tryz.results65, go_sem, q0, q1, q2]) rfl q3
   | true =>
    by_cases h4 : (M : Int) > 4
    ·go_wp2
     obtain ⟨q0, q1, q2, q3⟩ := HD1.out (by omega)
     exact bodyPost_ret (v := .agg #[.int .i64 ((M : Nat) : Int), .int .i64 ((1 + M / 2 : Nat) : Int), .int .i64 ((A : Nat) : Int)]) (by simp [results, Tryz.results65, go_sem, q0, q1, q2]) rfl q3
    ·go_wp2
     obtain ⟨q0, q1, q2, q3⟩ := HD0.out
     exact bodyPost_ret (v := .agg #[.int .i64 ((M : Nat) : Int), .int .i64 ((F : Nat) : Int), .int .i64 ((A : Nat) : Int)]) (by simp [results, Tryz.results65, go_sem, q0, q1, q2]) rfl q3
  ·obtain ⟨M, hM⟩ : ∃ M : Nat, (2 : Int) + (r1 : Int) = (M : Int) := ⟨2 + r1, by simp⟩
   have hM2 : 2 ≤ M := by omega
   have hM5 : M ≤ 5000 := by omega
   have h0' : ((r2 : Int) == 0) = false := by simp; omega
   have h1' : ((r2 : Int) == 1) = false := by simp; omega
   have S3 := Lib.hid (S2.out.more (L := K + 6) (by omega))
   have B3 := B2
   have R3 := R2
   clear hr1 hr2 h0 h1
   have HP4 := Lib.hid (pick_any p (K + 6) M w2 S3.out (by omega))
   go_wp2_with fail
   refine HP4.out.mono ?_
   rintro e w4 ⟨F, rfl, hF, s4, g4⟩
   have hF2 : F < M := by omega
   have B4 := B3.out.trans (Beside.grown g4)
   have R4 := R3.out.src g4 (by omega)
   have hz4 := R4.lt
   have hp4 : p < w4.heap.size := by omega
   obtain ⟨W4, hW4⟩ : ∃ W4, W4 = w4.alloc (.cells #[.int .i64 (M : Int), .int .i64 (F : Int), .int .i64 0] 27) := ⟨_, rfl⟩
   have B5 : Beside p w W4 := by rw [hW4]; exact B4.alloc _
   have R5 : Blk W4 w.heap.size 27 #[.int .i64 0, .int .i64 0, .int .i64 0] := by rw [hW4]; exact R4.alloc _
   have S5 : Src W4 p (K + 8) := by rw [hW4]; exact s4.below ((Below.refl _ _).alloc (Nat.le_refl _) _)
   have N5 : Blk W4 w4.heap.size 27 #[.int .i64 (M : Int), .int .i64 (F : Int), .int .i64 0] := by rw [hW4]; exact Blk.new _ _ _
   have HW4 := Lib.hid hW4
   have HP5 := Lib.hid (pick_any p (K + 8) M W4 S5 (by omega))
   have HB5 := Lib.hid B5
   have HR5 := Lib.hid R5
   have HN5 := Lib.hid N5
   clear s4 g4 B4 R4 hW4 B5 R5 S5 N5 hF
   go_wp2_with fail
   rw [← HW4.out]
   refine HP5.out.mono ?_
   rintro e w6 ⟨A, rfl, hA, s6, g6⟩
   have hA2 : A < M := by omega
   have B6 := HB5.out.trans (Beside.grown g6)
   have R6 := HR5.out.src g6 (by omega)
   have N6 := HN5.out.src g6 (by omega)
   have n60 := N6.at 0 (v := .int .i64 (M : Int)) rfl
   have n61 := N6.at 1 (v := .int .i64 (F : Int)) rfl
   have n62 := N6.at 2 (v := .int .i64 0) rfl
   have f60 := N6.frz 0
   have f61 := N6.frz 1
   have f62 := N6.frz 2
   obtain ⟨w7, hw7⟩ : ∃ w7, w7 = w6.setCell ⟨w4.heap.size, 2, none⟩ (.int .i64 (A : Int)) := ⟨_, rfl⟩
   have B7 : Beside p w w7 := by rw [hw7]; exact B6.set (by show w.heap.size ≤ w4.heap.size; omega) _
   have R7 : Blk w7 w.heap.size 27 #[.int .i64 0, .int .i64 0, .int .i64 0] := by rw [hw7]; exact R6.other _ (by show w4.heap.size ≠ w.heap.size; omega)
   have N7 : Blk w7 w4.heap.size 27 #[.int .i64 ((M : Nat) : Int), .int .i64 ((F : Nat) : Int), .int .i64 ((A : Nat) : Int)] := by rw [hw7]; exact N6.setTo 2 _ rfl
   have S7 : Src w7 p (K + 10) := by rw [hw7]; exact Src.set' s6 (by show p < w4.heap.size; omega) _
   have HW7 := Lib.hid hw7
   have HP7 := Lib.hid (one_any p (K + 10) 4 w7 S7 (by omega))
   have HB7 := Lib.hid B7
   have HR7 := Lib.hid R7
   have HN7 := Lib.hid N7
   clear s6 g6 B6 R6 N6 hw7 B7 R7 S7 N7 hA
   go_wp2_with fail
   rw [← HW7.out]
   refine HP7.out.mono ?_
   rintro e w8 ⟨r8, rfl, s8, g8⟩
   clear n60 n61 n62 f60 f61 f62
   have B8 := HB7.out.trans (Beside.grown g8)
   have R8 := HR7.out.src g8 (by omega)
   have N8 := HN7.out.src g8 (by omega)
   have r80 := R8.at 0 (v := .int .i64 0) rfl
   have r81 := R8.at 1 (v := .int .i64 0) rfl
   have r82 := R8.at 2 (v := .int .i64 0) rfl
   have f80 := R8.frz 0
   have f81 := R8.frz 1
   have f82 := R8.frz 2
   have n80 := N8.at 0 (v := .int .i64 (M : Int)) rfl
   have n81 := N8.at 1 (v := .int .i64 (F : Int)) rfl
   have n82 := N8.at 2 (v := .int .i64 (A : Int)) rfl
   have h80 := N8.frz 0
   have h81 := N8.frz 1
   have h82 := N8.frz 2
   have hne : w4.heap.size ≠ w.heap.size := by omega
   have hne2 : w.heap.size ≠ w4.heap.size := by omega
   have HD0 := Lib.hid (End.plain (K := K + 12) hM2 hM5 hF2 hA2 B8 R8 s8 hp)
   have HD1 := Lib.hid (fun h4 => End.half (F := F) (K := K + 12) hM2 hM5 hA2 h4 B8 R8 s8 hp (b := w4.heap.size) (by omega))
   clear B8 R8 N8 s8 g8
   cases r8 with
   | false =>
    go_wp2
    obtain ⟨q0, q1, q2, q3⟩ := HD0.out
    exact bodyPost_ret (v := .agg #[.int .i64 ((M : Nat) : Int), .int .i64 ((F : Nat) : Int), .int .i64 ((A : Nat) : Int)]) (by simp [results, Tryz.results65, go_sem, q0, q1, q2]) rfl q3
   | true =>
    by_cases h4 : (M : Int) > 4
    ·go_wp2
     obtain ⟨q0, q1, q2, q3⟩ := HD1.out (by omega)
     exact bodyPost_ret (v := .agg #[.int .i64 ((M : Nat) : Int), .int .i64 ((1 + M / 2 : Nat) : Int), .int .i64 ((A : Nat) : Int)]) (by simp [results, Tryz.results65, go_sem, q0, q1, q2]) rfl q3
    ·go_wp2
     obtain ⟨q0, q1, q2, q3⟩ := HD0.out
     exact bodyPost_ret (v := .agg #[.int .i64 ((M : Nat) : Int), .int .i64 ((F : Nat) : Int), .int .i64 ((A : Nat) : Int)]) (by simp [results, Tryz.results65, go_sem, q0, q1, q2]) rfl q3
end Go.Proofs.YtgipnbeipfhekaaGreatDoor.Draw
namespace Go.Proofs.YtgipnbeipfhekaaGreatDoor.Draw
open Go.RowKit Go.Proofs.YtgipnbeipfhekaaGreatDoor Go.Proofs.YtgipnbeipfhekaaGreatDoor.Base Go.Proofs.YtgipnbeipfhekaaGreatDoor.Mem Go.Proofs.YtgipnbeipfhekaaGreatDoor.Src Go.Proofs.YtgipnbeipfhekaaGreatDoor.Blk Go.Proofs.YtgipnbeipfhekaaGreatDoor.Pow
set_option linter.unusedVariables false
end Go.Proofs.YtgipnbeipfhekaaGreatDoor.Draw
set_option linter.unusedVariables false
namespace Go.Proofs.YtgipnbeipfhekaaGreatDoor.Hd
open Go.Proofs.YtgipnbeipfhekaaGreatDoor.CycM
def S (f : Nat) : Nat → Nat
 | 0 => 0
 | n + 1 => f * S f n + 1
theorem mod_one {f p : Nat} (h : f % p = 1) : ∃ t, f = 1 + p * t := ⟨f / p, by have := Nat.mod_add_div f p; omega⟩
theorem reach {m j n : Nat} {T : Nat → Nat} (hm : 2 ≤ m) (hT : ∀ s, T s < m) (h : IsCyc T 0 j n) (hf : n - j = m) (y : Nat) (hy : y < m) : ∃ k, 1 ≤ k ∧ iter T 0 k = y := by
 have hle := h.le (M := m) (fun s _ => hT s) (by omega)
 obtain ⟨h1, h2, h3⟩ := h
 obtain rfl : j = 0 := by omega
 obtain rfl : n = m := by omega
 rcases Classical.em (∃ k, k < n ∧ iter T 0 k = y) with ⟨k, hk, e⟩ | hno
 ·rcases Nat.eq_zero_or_pos k with h0 | h0
  ·subst h0
   exact ⟨n, by omega, h2.symm.trans e⟩
  ·exact ⟨k, h0, e⟩
 ·have hlt : ∀ k, iter T 0 k < n := iter_lt (fun s _ => hT s) (by omega)
  have := pigeon n (n + 1) (fun i => if i < n then iter T 0 i else y) (fun i hi => by
   show (if i < n then iter T 0 i else y) < n
   split
   ·exact hlt i
   ·exact hy) (fun a b hab hb => by
   show (if a < n then iter T 0 a else y) ≠ (if b < n then iter T 0 b else y)
   rw [if_pos (by omega)]
   split
   ·exact h3 a b hab (by assumption)
   ·exact fun e => hno ⟨a, by omega, e⟩)
  omega
end Go.Proofs.YtgipnbeipfhekaaGreatDoor.Hd
namespace Go.Proofs.YtgipnbeipfhekaaGreatDoor.Cycled
open Go.RowKit Go.Proofs.YtgipnbeipfhekaaGreatDoor Go.Proofs.YtgipnbeipfhekaaGreatDoor.Base Go.Proofs.YtgipnbeipfhekaaGreatDoor.Mem Go.Proofs.YtgipnbeipfhekaaGreatDoor.Src Go.Proofs.YtgipnbeipfhekaaGreatDoor.Blk Go.Proofs.YtgipnbeipfhekaaGreatDoor.Pow Go.Proofs.YtgipnbeipfhekaaGreatDoor.Cong Go.Proofs.YtgipnbeipfhekaaGreatDoor.CycM Go.Proofs.YtgipnbeipfhekaaGreatDoor.Draw
set_option linter.unusedVariables false
theorem cyc_or {T : Nat → Nat} {x : Nat} : ∀ k, (∃ j n, IsCyc T x j n) ∨ ∀ a b, a < b → b < k → iter T x a ≠ iter T x b
 | 0 => .inr fun a b _ h => absurd h (Nat.not_lt_zero b)
 | k + 1 => by
  rcases cyc_or (T := T) (x := x) k with h | h
  ·exact .inl h
  ·by_cases hj : ∃ j, j < k ∧ iter T x j = iter T x k
   ·obtain ⟨j, h1, h2⟩ := hj
    exact .inl ⟨j, k, h1, h2, h⟩
   ·refine .inr fun a b hab hb => ?_
    rcases Nat.lt_or_ge b k with h1 | h1
    ·exact h a b hab h1
    ·obtain rfl : b = k := by omega
     exact fun e => hj ⟨a, hab, e⟩
theorem cyc_ex {T : Nat → Nat} {M x : Nat} (hT : ∀ s, s < M → T s < M) (hx : x < M) : ∃ j n, IsCyc T x j n := by
 rcases cyc_or (T := T) (x := x) (M + 1) with h | h
 ·exact h
 ·have := pigeon M (M + 1) (iter T x) (fun i _ => iter_lt hT hx i) h
  omega
theorem bothB_yes {m f a x : Nat} (hm : 2 ≤ m) (hm2 : m ≤ 100000) (hf : f < m) (ha : a < m) (hx : x < m) : bothB m f a x = true := by
 rw [bothB, congB, inR_yes (by omega), inR_yes (by omega), inR_yes (by omega), inR_yes (by omega)]; rfl
def longB (n n' : Nat) : Bool := decide ((n : Int) > 1048576) || decide ((n' : Int) > 1048576)
theorem b10Long_any (A A' : Option Addr) (n c n' c' : Nat) (w : World) :
  Calls Tryz.prog 5 #[.slice A n c, .slice A' n' c'] w fun e w' => e = .returned (.bool (longB n n')) ∧ w = w' := by
 by_cases h1 : (n : Int) > 1048576
 ·go_enter Tryz.func5, Tryz.ntmps5
  go_wp2
  go_ret
  exact ⟨ret_bool (by simp only [longB, decide_eq_true h1, Bool.true_or]), rfl⟩
 ·go_enter Tryz.func5, Tryz.ntmps5
  go_wp2
  go_ret
  exact ⟨ret_bool (by rw [longB, decide_eq_false (show ¬ (n : Int) > 1048576 by omega), Bool.false_or]), rfl⟩
end Go.Proofs.YtgipnbeipfhekaaGreatDoor.Cycled
namespace Go.Proofs.YtgipnbeipfhekaaGreatDoor.ApartM
open Go.Proofs.YtgipnbeipfhekaaGreatDoor Go.Proofs.YtgipnbeipfhekaaGreatDoor.Base Go.Proofs.YtgipnbeipfhekaaGreatDoor.Str Go.Proofs.YtgipnbeipfhekaaGreatDoor.CycM Go.Proofs.YtgipnbeipfhekaaGreatDoor.Take
set_option linter.unusedVariables false
structure Way (K W T m f a s : Int) (U : Nat → Nat) (X j n : Nat) : Prop where
 start : s = (X : Int)
 cyc : IsCyc U X j n
 small : n ≤ 200000
 pre : preS K W T m f a s = (j : Int)
 per : perS K W T m f a s = (n : Int) - j
 valid : ∀ c, streamB K W T m f a ((iter U X c : Nat) : Int) = true
 take : ∀ i c : Nat, takeX K W T m f a ((iter U X i : Nat) : Int) (c : Int) = ((iter U X (i + c) : Nat) : Int)
theorem way {K W T m f a s : Int} (hB : streamB K W T m f a s = true) : ∃ (U : Nat → Nat) (X j n : Nat), Way K W T m f a s U X j n := by
 obtain ⟨X, N, rfl, -, -, ⟨rfl, V, A, rfl, rfl, hV, hA, hX⟩ | ⟨rfl, M, F, A, rfl, rfl, rfl, h1, h2, h3, h4, h5⟩⟩ := Skip.natsN hB (c := 0) (by decide)
 ·have hT : ∀ t, t < 2 ^ V → Reg.nextR V A t < 2 ^ V := fun t ht => Reg.nextR_lt ht
  have hp : 2 ^ V ≤ 2 ^ 16 := Nat.pow_le_pow_right (by decide) hV
  obtain ⟨j, n, hc⟩ := Cycled.cyc_ex hT hX
  have hn : n ≤ 2 ^ V := pigeon _ n (iter (Reg.nextR V A) X) (fun i _ => iter_lt hT hX i) hc.2.2
  have hv : ∀ c, streamB 0 V A m f a ((iter (Reg.nextR V A) X c : Nat) : Int) = true := fun c => by
   rcases streamB_true hB with ⟨-, hR⟩ | ⟨h, -⟩
   ·have hy := iter_lt hT hX c
    have e : streamB 0 V A m f a ((iter (Reg.nextR V A) X c : Nat) : Int) = streamB 0 V A m f a (X : Int) := by
     unfold streamB
     rw [if_pos rfl, if_pos rfl, Jump.bothR_yes hV hA hy, Jump.bothR_yes hV hA hX]
    rw [e]; exact hB
   ·omega
  have hR := Jump.bothR_yes hV hA hX
  refine ⟨_, X, j, n, rfl, hc, by omega, ?_, ?_, hv, fun i c => ?_⟩
  ·rw [preS_r hB, Reg.preR_eq hR (j := j) (n := n) (by simpa using hc)]
  ·rw [perS_r hB, Reg.perR_eq hR (j := j) (n := n) (by simpa using hc)]
  ·rw [Skip.takeX_r, iter_add]
 ·have hT : ∀ t, t < M → Cong.stepN M F A t < M := fun t ht => Nat.mod_lt _ (by omega)
  obtain ⟨j, n, hc⟩ := Cycled.cyc_ex hT h5
  have hn : n ≤ M := pigeon _ n (iter (Cong.stepN M F A) X) (fun i _ => iter_lt hT h5 i) hc.2.2
  have hv : ∀ c, streamB 1 W T M F A ((iter (Cong.stepN M F A) X c : Nat) : Int) = true := fun c => by
   have hy := iter_lt hT h5 c
   have e : streamB 1 W T M F A ((iter (Cong.stepN M F A) X c : Nat) : Int) = streamB 1 W T M F A (X : Int) := by
    unfold streamB; rw [if_neg (show ¬ (1 : Int) = 0 by decide), if_neg (show ¬ (1 : Int) = 0 by decide), if_pos rfl, if_pos rfl, Cycled.bothB_yes h1 h2 h3 h4 hy, Cycled.bothB_yes h1 h2 h3 h4 h5]
   rw [e]; exact hB
  have hR := Cycled.bothB_yes h1 h2 h3 h4 h5
  refine ⟨_, X, j, n, rfl, hc, by omega, ?_, ?_, hv, fun i c => ?_⟩
  ·rw [preS_c hB, Cong.preB_eq hR (j := j) (n := n) (by simpa using hc)]
  ·rw [perS_c hB, Cong.perB_eq hR (j := j) (n := n) (by simpa using hc)]
  ·rw [Skip.takeX_c, iter_add]
end Go.Proofs.YtgipnbeipfhekaaGreatDoor.ApartM
namespace Go.Proofs.YtgipnbeipfhekaaGreatDoor.Draw
open Go.RowKit Go.Proofs.YtgipnbeipfhekaaGreatDoor Go.Proofs.YtgipnbeipfhekaaGreatDoor.Base Go.Proofs.YtgipnbeipfhekaaGreatDoor.Mem Go.Proofs.YtgipnbeipfhekaaGreatDoor.Src Go.Proofs.YtgipnbeipfhekaaGreatDoor.Blk Go.Proofs.YtgipnbeipfhekaaGreatDoor.Bits
set_option linter.unusedVariables false
def RegRet (p K : Nat) (w : World) (e : Ending) (w' : World) : Prop := ∃ V T : Nat, V ≤ 16 ∧ T < 2 ^ V ∧ e = .returned (.agg #[.int .i64 ((V : Nat) : Int), .int .i64 ((T : Nat) : Int)]) ∧ Src w' p K ∧ Beside p w w'
theorem EndR {p K V T : Nat} {w w8 : World} (hV : V ≤ 16) (hT : T < 2 ^ V) (hb : Beside p w w8) (hr : Blk w8 w.heap.size 25 #[.int .i64 0, .int .i64 0]) (hs : Src w8 p K) (hp : p < w.heap.size) :
  let w9 := (w8.setCell ⟨w.heap.size, 0, none⟩ (.int .i64 (V : Int))).setCell ⟨w.heap.size, 1, none⟩ (.int .i64 (T : Int))
  w9.cell? ⟨w.heap.size, 0, none⟩ = some (.int .i64 (V : Int)) ∧ w9.cell? ⟨w.heap.size, 1, none⟩ = some (.int .i64 (T : Int)) ∧ RegRet p K w (.returned (.agg #[.int .i64 ((V : Nat) : Int), .int .i64 ((T : Nat) : Int)])) w9 := by
 have S := (hr.setTo 0 (.int .i64 (V : Int)) (cs' := #[.int .i64 (V : Int), .int .i64 0]) rfl).setTo 1 (.int .i64 (T : Int)) (cs' := #[.int .i64 ((V : Nat) : Int), .int .i64 ((T : Nat) : Int)]) rfl
 refine ⟨S.at 0 rfl, S.at 1 rfl, V, T, hV, hT, rfl, ?_, ?_⟩
 ·exact Src.set' (Src.set' hs (a := ⟨w.heap.size, 0, none⟩) hp _) (a := ⟨w.heap.size, 1, none⟩) hp _
 ·exact (hb.set (a := ⟨w.heap.size, 0, none⟩) (Nat.le_refl _) _).set (a := ⟨w.heap.size, 1, none⟩) (Nat.le_refl _) _
theorem or1 {V T : Nat} (hV : V ≤ 16) (hT : T < 2 ^ V) : ∃ U : Nat, U < 2 ^ V ∧ bits .or .i64 (T : Int) (bits .and .i64 1 (wrap64 (wrap64 (2 ^ V) - 1))) = (U : Int) := by
 have hp : 2 ^ V ≤ 2 ^ 16 := Nat.pow_le_pow_right (by decide) hV
 have h0 := Nat.two_pow_pos V
 have e1 : wrap64 (wrap64 ((2 : Int) ^ V) - 1) = ((2 ^ V - 1 : Nat) : Int) := by
  rw [show (2 : Int) ^ V = ((2 ^ V : Nat) : Int) by simp]
  generalize 2 ^ V = N at *
  simp only [wrap64]; omega
 rw [e1, show (1 : Int) = ((1 : Nat) : Int) from rfl, i64_and_nat 1 (2 ^ V - 1) (by decide) (by omega)]
 have ha : 1 &&& (2 ^ V - 1) ≤ 1 := Nat.and_le_left
 rw [i64_or_nat T (1 &&& (2 ^ V - 1)) (by omega) (by omega)]
 refine ⟨_, Nat.or_lt_two_pow hT ?_, rfl⟩
 have hb : 1 &&& (2 ^ V - 1) ≤ 2 ^ V - 1 := Nat.and_le_right
 omega
theorem wrap_pow {V : Nat} (hV : V ≤ 16) : wrap64 ((2 : Int) ^ V) = ((2 ^ V : Nat) : Int) := by
 have hp : 2 ^ V ≤ 2 ^ 16 := Nat.pow_le_pow_right (by decide) hV
 rw [show (2 : Int) ^ V = ((2 ^ V : Nat) : Int) by simp]
 generalize 2 ^ V = N at *
 simp only [wrap64]; omega
structure Mid (p K r V T : Nat) (w w' : World) : Prop where
 beside : Beside p w w'
 res : Blk w' w.heap.size 25 #[.int .i64 0, .int .i64 0]
 reg : Blk w' r 25 #[.int .i64 ((V : Nat) : Int), .int .i64 ((T : Nat) : Int)]
 src : Src w' p K
theorem Mid.go {p K L r V T : Nat} {w w1 w2 : World} (h : Mid p K r V T w w1) (hs : Src w2 p L) (g : w1.grownBy w2 (some p)) (hp : p < w.heap.size) (hr : w.heap.size < r) : Mid p L r V T w w2 :=
 ⟨h.beside.trans (Beside.grown g), h.res.src g (by omega), h.reg.src g (by omega), hs⟩
theorem Mid.more {p K L r V T : Nat} {w w1 : World} (h : Mid p K r V T w w1) (hL : K ≤ L) : Mid p L r V T w w1 := ⟨h.beside, h.res, h.reg, h.src.more hL⟩
theorem Mid.setV {p K r V T U : Nat} {w w1 : World} (h : Mid p K r V T w w1) (hp : p < w.heap.size) (hr : w.heap.size < r) : Mid p K r U T w (w1.setCell ⟨r, 0, none⟩ (.int .i64 (U : Int))) :=
 ⟨h.beside.set (a := ⟨r, 0, none⟩) (Nat.le_of_lt hr) _, h.res.other (a := ⟨r, 0, none⟩) _ (by show r ≠ _; omega), h.reg.setTo 0 _ rfl, Src.set' h.src (a := ⟨r, 0, none⟩) (by show p < r; omega) _⟩
theorem Mid.setT {p K r V T U : Nat} {w w1 : World} (h : Mid p K r V T w w1) (hp : p < w.heap.size) (hr : w.heap.size < r) : Mid p K r V U w (w1.setCell ⟨r, 1, none⟩ (.int .i64 (U : Int))) :=
 ⟨h.beside.set (a := ⟨r, 1, none⟩) (Nat.le_of_lt hr) _, h.res.other (a := ⟨r, 1, none⟩) _ (by show r ≠ _; omega), h.reg.setTo 1 _ rfl, Src.set' h.src (a := ⟨r, 1, none⟩) (by show p < r; omega) _⟩
theorem Mid.alloc {p K r V T : Nat} {w w1 : World} (h : Mid p K r V T w w1) (o : Obj) : Mid p K r V T w (w1.alloc o) := ⟨h.beside.alloc o, h.res.alloc o, h.reg.alloc o, h.src.below ((Below.refl _ _).alloc (Nat.le_refl _) _)⟩
theorem Mid.fin {p K r V T : Nat} {w w1 : World} (h : Mid p K r V T w w1) (hp : p < w.heap.size) (hV : V ≤ 16) (hT : T < 2 ^ V) :
  let w9 := (w1.setCell ⟨w.heap.size, 0, none⟩ (.int .i64 (V : Int))).setCell ⟨w.heap.size, 1, none⟩ (.int .i64 (T : Int))
  w9.cell? ⟨w.heap.size, 0, none⟩ = some (.int .i64 (V : Int)) ∧ w9.cell? ⟨w.heap.size, 1, none⟩ = some (.int .i64 (T : Int)) ∧ RegRet p K w (.returned (.agg #[.int .i64 ((V : Nat) : Int), .int .i64 ((T : Nat) : Int)])) w9 := EndR hV hT h.beside h.res h.src hp
set_option maxHeartbeats 1000000 in
set_option maxRecDepth 100000 in
theorem l02DrawOk_any (p K : Nat) (w : World) (h : Src w p K) (hK : K ≤ 100000000000) :
  Calls Tryz.prog 64 #[.pointer (some ⟨p, 0, none⟩)] w (RegRet p (K + 12) w) := by
 have hp := h.lt
 obtain ⟨W0, hW0⟩ : ∃ W0, W0 = w.alloc (.cells #[.int .i64 0, .int .i64 0] 25) := ⟨_, rfl⟩
 have B0 : Beside p w W0 := by rw [hW0]; exact (Beside.refl p w).alloc _
 have R0 : Blk W0 w.heap.size 25 #[.int .i64 0, .int .i64 0] := by rw [hW0]; exact Blk.new _ _ _
 have S0 : Src W0 p K := by rw [hW0]; exact h.below ((Below.refl _ _).alloc (Nat.le_refl _) _)
 have HW := Lib.hid hW0
 have HB0 := Lib.hid B0
 have HR0 := Lib.hid R0
 have HP := Lib.hid (pick_any p K 9 W0 S0 (by omega))
 clear hW0 B0 R0 S0 h
 go_enter Tryz.func64, Tryz.ntmps64
 go_wp2_with fail
 rw [← HW.out]
 refine HP.out.mono ?_
 rintro e w1 ⟨r1, rfl, hr1, s1, g1⟩
 have hV1 : r1 ≤ 16 := by omega
 have R1 := HR0.out.src g1 (by omega)
 have hz1 := R1.lt
 obtain ⟨W1, hW1⟩ : ∃ W1, W1 = w1.alloc (.cells #[.int .i64 (r1 : Int), .int .i64 0] 25) := ⟨_, rfl⟩
 have M1 : Mid p (K + 2) w1.heap.size r1 0 w W1 := by
  rw [hW1]
  exact ⟨(HB0.out.trans (Beside.grown g1)).alloc _, R1.alloc _, Blk.new _ _ _, s1.below ((Below.refl _ _).alloc (Nat.le_refl _) _)⟩
 have hrr : w.heap.size < w1.heap.size := hz1
 have HW1 := Lib.hid hW1
 have HM1 := Lib.hid M1
 have HP2 := Lib.hid (one_any p (K + 2) 14 W1 M1.src (by omega))
 obtain ⟨r, hr⟩ : ∃ r, r = w1.heap.size := ⟨_, rfl⟩
 rw [← hr] at HM1 hrr
 have HRr := Lib.hid hr
 clear s1 g1 hW1 M1 R1 HB0 HR0 HW hr1 hz1 hr
 go_wp2_with fail
 rw [← HRr.out, ← HW1.out]
 refine HP2.out.mono ?_
 rintro e w2 ⟨r2, rfl, s2, g2⟩
 have HM2 := Lib.hid (HM1.out.go s2 g2 hp hrr)
 clear s2 g2 HM1 HW1 HRr HP2
 rcases r2 with _ | _
 ·obtain ⟨V, hVV⟩ : ∃ V, V = r1 := ⟨_, rfl⟩
  rw [← hVV] at HM2 hV1
  have hV : V ≤ 16 := hV1
  obtain ⟨w4, hw4⟩ : ∃ w4, w4 = w2 := ⟨_, rfl⟩
  rw [← hw4] at HM2
  have HM4 := Lib.hid (HM2.out.more (show K + 4 ≤ K + 6 by omega))
  have HW4 := Lib.hid hw4
  clear HM2 hVV hw4
  have hpw := Lib.hid (wrap_pow hV)
  have n0 := HM4.out.reg.at 0 (v := .int .i64 (V : Int)) rfl
  rw [HW4.out] at n0
  have HP4 := Lib.hid (pick_any p (K + 6) (wrap64 (2 ^ V)) w4 HM4.out.src (by omega))
  go_wp2_with fail
  rw [← HW4.out]
  refine HP4.out.mono ?_
  rintro e w5 ⟨T, rfl, hT, s5, g5⟩
  have hT2 : T < 2 ^ V := by
   have := Nat.two_pow_pos V
   rw [hpw.out] at hT
   omega
  have M5 := HM4.out.go s5 g5 hp hrr
  have c1 := M5.reg.at 1 (v := .int .i64 0) rfl
  have f1 := M5.reg.frz 1
  obtain ⟨w6, hw6⟩ : ∃ w6, w6 = w5.setCell ⟨r, 1, none⟩ (.int .i64 (T : Int)) := ⟨_, rfl⟩
  have M6 : Mid p (K + 8) r V T w w6 := by rw [hw6]; exact M5.setT hp hrr
  have HW6 := Lib.hid hw6
  have HM6 := Lib.hid M6
  have HP6 := Lib.hid (one_any p (K + 8) 2 w6 M6.src (by omega))
  clear hw6 M5 M6 s5 g5 hT n0 HM4 HW4 HP4 hpw
  go_wp2_with fail
  rw [← HW6.out]
  refine HP6.out.mono ?_
  rintro e w7 ⟨r7, rfl, s7, g7⟩
  have M7 := (HM6.out.go s7 g7 hp hrr).more (show K + 8 + 2 ≤ K + 12 by omega)
  have c0 := M7.reg.at 0 (v := .int .i64 (V : Int)) rfl
  have c1 := M7.reg.at 1 (v := .int .i64 (T : Int)) rfl
  have e0 := M7.res.at 0 (v := .int .i64 0) rfl
  have e1 := M7.res.at 1 (v := .int .i64 0) rfl
  have f0 := M7.res.frz 0
  have f1 := M7.res.frz 1
  have f2 := M7.reg.frz 1
  have hne : r ≠ w.heap.size := by omega
  have hne' : w.heap.size ≠ r := by omega
  obtain ⟨U, hU, hor⟩ := or1 hV hT2
  have HE := Lib.hid (M7.fin hp hV hT2)
  have HE2 := Lib.hid ((M7.setT (U := U) hp hrr).fin hp hV hU)
  clear M7 s7 g7 HM6 HW6 HP6
  cases r7 with
  | false =>
   go_wp2
   obtain ⟨q0, q1, q3⟩ := HE.out
   exact bodyPost_ret (v := .agg #[.int .i64 ((V : Nat) : Int), .int .i64 ((T : Nat) : Int)]) (by simp [results, Tryz.results64, go_sem, q0, q1]) rfl q3
  | true =>
   go_wp2
   obtain ⟨q0, q1, q3⟩ := HE2.out
   exact bodyPost_ret (v := .agg #[.int .i64 ((V : Nat) : Int), .int .i64 ((U : Nat) : Int)]) (by simp [results, Tryz.results64, go_sem, q0, q1]) rfl q3
 ·obtain ⟨W2, hW2⟩ : ∃ W2, W2 = w2.alloc (.cells #[.int .i64 14, .int .i64 15, .int .i64 16] 2) := ⟨_, rfl⟩
  have hz2 := HM2.out.res.lt
  have M2' : Mid p (K + 4) r r1 0 w W2 := by rw [hW2]; exact HM2.out.alloc _
  have hcs : ∀ i, i < [14, 15, 16].length → W2.cell? ⟨w2.heap.size, i, none⟩ = some (.int .i64 (([14, 15, 16] : List Int).getD i 0)) := by
   rw [hW2]; exact lits_cell (xs := [14, 15, 16]) (Blk.new w2 2 _)
  have HP3 := Lib.hid (among_any p (K + 4) w2.heap.size 3 [14, 15, 16] W2 M2'.src (by omega) (by omega) (by rw [hW2]; simp) (by decide) (by decide) hcs)
  have HW2 := Lib.hid hW2
  have HM2' := Lib.hid M2'
  clear hW2 M2' hcs HM2
  go_wp2_with fail
  rw [← HW2.out]
  refine HP3.out.mono ?_
  rintro e w3 ⟨r3, rfl, hr3, s3, g3⟩
  have hv : ∀ r, r < 3 → 0 ≤ ([14, 15, 16] : List Int).getD r 0 ∧ ([14, 15, 16] : List Int).getD r 0 ≤ 16 := by decide
  obtain ⟨hv1, hv2⟩ := hv r3 hr3
  generalize ([14, 15, 16] : List Int).getD r3 0 = v at *
  obtain ⟨V, rfl⟩ := Int.eq_ofNat_of_zero_le hv1
  have hV : V ≤ 16 := by omega
  have M3 := HM2'.out.go s3 g3 hp hrr
  have c0 := M3.reg.at 0 (v := .int .i64 (r1 : Int)) rfl
  have f0 := M3.reg.frz 0
  obtain ⟨w4, hw4⟩ : ∃ w4, w4 = w3.setCell ⟨r, 0, none⟩ (.int .i64 (V : Int)) := ⟨_, rfl⟩
  have HM4 := Lib.hid (show Mid p (K + 6) r V 0 w w4 by rw [hw4]; exact M3.setV hp hrr)
  have HW4 := Lib.hid hw4
  clear M3 hw4 s3 g3 hr3 hv hv1 hv2 HM2' HW2 HP3 hz2
  have hpw := Lib.hid (wrap_pow hV)
  have n0 := HM4.out.reg.at 0 (v := .int .i64 (V : Int)) rfl
  rw [HW4.out] at n0
  have HP4 := Lib.hid (pick_any p (K + 6) (wrap64 (2 ^ V)) w4 HM4.out.src (by omega))
  go_wp2_with fail
  rw [← HW4.out]
  refine HP4.out.mono ?_
  rintro e w5 ⟨T, rfl, hT, s5, g5⟩
  have hT2 : T < 2 ^ V := by
   have := Nat.two_pow_pos V
   rw [hpw.out] at hT
   omega
  have M5 := HM4.out.go s5 g5 hp hrr
  have c1 := M5.reg.at 1 (v := .int .i64 0) rfl
  have f1 := M5.reg.frz 1
  obtain ⟨w6, hw6⟩ : ∃ w6, w6 = w5.setCell ⟨r, 1, none⟩ (.int .i64 (T : Int)) := ⟨_, rfl⟩
  have M6 : Mid p (K + 8) r V T w w6 := by rw [hw6]; exact M5.setT hp hrr
  have HW6 := Lib.hid hw6
  have HM6 := Lib.hid M6
  have HP6 := Lib.hid (one_any p (K + 8) 2 w6 M6.src (by omega))
  clear hw6 M5 M6 s5 g5 hT n0 HM4 HW4 HP4 hpw
  go_wp2_with fail
  rw [← HW6.out]
  refine HP6.out.mono ?_
  rintro e w7 ⟨r7, rfl, s7, g7⟩
  have M7 := (HM6.out.go s7 g7 hp hrr).more (show K + 8 + 2 ≤ K + 12 by omega)
  have c0 := M7.reg.at 0 (v := .int .i64 (V : Int)) rfl
  have c1 := M7.reg.at 1 (v := .int .i64 (T : Int)) rfl
  have e0 := M7.res.at 0 (v := .int .i64 0) rfl
  have e1 := M7.res.at 1 (v := .int .i64 0) rfl
  have f0 := M7.res.frz 0
  have f1 := M7.res.frz 1
  have f2 := M7.reg.frz 1
  have hne : r ≠ w.heap.size := by omega
  have hne' : w.heap.size ≠ r := by omega
  obtain ⟨U, hU, hor⟩ := or1 hV hT2
  have HE := Lib.hid (M7.fin hp hV hT2)
  have HE2 := Lib.hid ((M7.setT (U := U) hp hrr).fin hp hV hU)
  clear M7 s7 g7 HM6 HW6 HP6
  cases r7 with
  | false =>
   go_wp2
   obtain ⟨q0, q1, q3⟩ := HE.out
   exact bodyPost_ret (v := .agg #[.int .i64 ((V : Nat) : Int), .int .i64 ((T : Nat) : Int)]) (by simp [results, Tryz.results64, go_sem, q0, q1]) rfl q3
  | true =>
   go_wp2
   obtain ⟨q0, q1, q3⟩ := HE2.out
   exact bodyPost_ret (v := .agg #[.int .i64 ((V : Nat) : Int), .int .i64 ((U : Nat) : Int)]) (by simp [results, Tryz.results64, go_sem, q0, q1]) rfl q3
end Go.Proofs.YtgipnbeipfhekaaGreatDoor.Draw
namespace Go.Proofs.YtgipnbeipfhekaaGreatDoor.Draw
open Go.RowKit Go.Proofs.YtgipnbeipfhekaaGreatDoor Go.Proofs.YtgipnbeipfhekaaGreatDoor.Base Go.Proofs.YtgipnbeipfhekaaGreatDoor.Mem Go.Proofs.YtgipnbeipfhekaaGreatDoor.Src Go.Proofs.YtgipnbeipfhekaaGreatDoor.Blk Go.Proofs.YtgipnbeipfhekaaGreatDoor.Str Go.Proofs.YtgipnbeipfhekaaGreatDoor.Take
set_option linter.unusedVariables false
def StrRet (p K : Nat) (w : World) (e : Ending) (w' : World) : Prop := ∃ C W T m f a s : Int, streamB C W T m f a s = true ∧ e = .returned (.agg #[.int .i64 C, .int .i64 W, .int .i64 T, .int .i64 m, .int .i64 f, .int .i64 a, .int .i64 s]) ∧ Src w' p K ∧ Beside p w w'
theorem rowed {p b : Nat} {w w1 w2 : World} (h : Beside p w w1) (g : w1.grownBy w2 (some b)) (hb : w.heap.size ≤ b) : Beside p w w2 :=
 ⟨g.os.trans h.os, g.tape.trans h.tape, g.output.trans h.output, Nat.le_trans h.size g.size, fun q h1 h2 => (g.block q (Nat.lt_of_lt_of_le h1 h.size) fun e => by have := Option.some.inj e; omega).trans (h.same q h1 h2)⟩
theorem regStream {V T X : Nat} (hV : V ≤ 16) (hT : T < 2 ^ V) (hX : X < 2 ^ V) : streamB 0 V T 0 0 0 X = true := by
 unfold streamB
 rw [if_pos rfl, Jump.bothR_yes hV hT hX]
 decide
theorem conStream {m f a X : Nat} (hm : 2 ≤ m) (hm2 : m ≤ 100000) (hf : f < m) (ha : a < m) (hX : X < m) : streamB 1 0 0 m f a X = true := by
 unfold streamB
 rw [if_neg (show ¬ (1 : Int) = 0 by decide), if_pos rfl, Cycled.bothB_yes hm hm2 hf ha hX]
 decide
theorem shlN {V : Nat} (hV : V ≤ 16) : IntKind.i64.wrap (2 ^ min (IntKind.u64.wrap (V : Int)).toNat 64) = ((2 ^ V : Nat) : Int) := by
 have e : min (IntKind.u64.wrap (V : Int)).toNat 64 = V := by
  rw [IntKind.wrap_u64]; omega
 have hp : 2 ^ V ≤ 2 ^ 16 := Nat.pow_le_pow_right (by decide) hV
 rw [e, show (2 : Int) ^ V = ((2 ^ V : Nat) : Int) by simp]
 generalize 2 ^ V = N at *
 rw [IntKind.wrap_i64]; omega
theorem EndS {p K : Nat} {C W T m f a s : Int} {w w8 : World} (hB : streamB C W T m f a s = true) (hb : Beside p w w8) (hr : SBox w8 w.heap.size 0 0 0 0 0 0 0) (hs : Src w8 p K) (hp : p < w.heap.size) :
  let w9 := set7 w8 w.heap.size C W T m f a s
  SBox w9 w.heap.size C W T m f a s ∧ StrRet p K w (.returned (.agg #[.int .i64 C, .int .i64 W, .int .i64 T, .int .i64 m, .int .i64 f, .int .i64 a, .int .i64 s])) w9 := by
 have g := grown_set7 w8 w.heap.size C W T m f a s
 exact ⟨hr.set7 C W T m f a s, C, W, T, m, f, a, s, hB, rfl, hs.kept g (fun q e => by cases e; exact hp), rowed hb g (Nat.le_refl _)⟩
theorem off7 {w : World} {b q i : Nat} {v v0 v1 v2 v3 v4 v5 v6 : Value} (h : w.cell? ⟨b, i, none⟩ = some v) (hne : q ≠ b) : (((((((w.setCell ⟨q, 0, none⟩ v0).setCell ⟨q, 1, none⟩ v1).setCell ⟨q, 2, none⟩ v2).setCell ⟨q, 3, none⟩ v3).setCell ⟨q, 4, none⟩ v4).setCell ⟨q, 5, none⟩ v5).setCell ⟨q, 6, none⟩ v6).cell? ⟨b, i, none⟩ = some v := by
 have hn : ∀ j, (⟨q, j, none⟩ : Addr) ≠ ⟨b, i, none⟩ := fun j e => hne (congrArg Addr.block e)
 rw [World.cell?_setCell_other _ _ _ _ (hn 6), World.cell?_setCell_other _ _ _ _ (hn 5), World.cell?_setCell_other _ _ _ _ (hn 4), World.cell?_setCell_other _ _ _ _ (hn 3), World.cell?_setCell_other _ _ _ _ (hn 2), World.cell?_setCell_other _ _ _ _ (hn 1), World.cell?_setCell_other _ _ _ _ (hn 0)]
 exact h
set_option maxHeartbeats 1000000 in
set_option maxRecDepth 100000 in
theorem l11DrawOk_any (p K : Nat) (w : World) (h : Src w p K) (hK : K ≤ 10000000000) :
  Calls Tryz.prog 28 #[.pointer (some ⟨p, 0, none⟩)] w (StrRet p (K + 16) w) := by
 have hp := h.lt
 obtain ⟨W0, hW0⟩ : ∃ W0, W0 = w.alloc (.cells #[.int .i64 0, .int .i64 0, .int .i64 0, .int .i64 0, .int .i64 0, .int .i64 0, .int .i64 0] 29) := ⟨_, rfl⟩
 have B0 : Beside p w W0 := by rw [hW0]; exact (Beside.refl p w).alloc _
 have R0 : SBox W0 w.heap.size 0 0 0 0 0 0 0 := by rw [hW0]; exact SBox.new _ _ _ _ _ _ _ _
 have S0 : Src W0 p K := by rw [hW0]; exact h.below ((Below.refl _ _).alloc (Nat.le_refl _) _)
 have HW := Lib.hid hW0
 have HB0 := Lib.hid B0
 have HR0 := Lib.hid R0
 have HP := Lib.hid (one_any p K 2 W0 S0 (by omega))
 clear hW0 B0 R0 S0 h
 go_enter Tryz.func28, Tryz.ntmps28
 go_wp2_with fail
 rw [← HW.out]
 refine HP.out.mono ?_
 rintro e w1 ⟨r1, rfl, s1, g1⟩
 have B1 := HB0.out.trans (Beside.grown g1)
 have R1 := HR0.out.kept g1 (fun e => by have := Option.some.inj e; omega)
 have hz1 := R1.lt
 have HR1 := Lib.hid R1
 have HB1 := Lib.hid B1
 have HS1 := Lib.hid s1
 clear s1 g1 R1 B1 HR0 HB0 HW
 cases r1 with
 | true =>
  have HD := Lib.hid (l02DrawOk_any p (K + 2) w1 HS1.out (by omega))
  go_wp2_with fail
  refine HD.out.mono ?_
  rintro e w2 ⟨V, T, hV, hT, rfl, s2, b2⟩
  have hpw := Lib.hid (wrap_pow hV)
  have B2 := HB1.out.trans b2
  have R2 : SBox w2 w.heap.size 0 0 0 0 0 0 0 := Blk.beside (t := 29) HR1.out b2 (by omega)
  obtain ⟨W2, hW2⟩ : ∃ W2, W2 = w2.alloc (.cells #[.int .i64 ((V : Nat) : Int), .int .i64 ((T : Nat) : Int)] 25) := ⟨_, rfl⟩
  have hz2 : w.heap.size < w2.heap.size := SBox.lt R2
  have B3 : Beside p w W2 := by rw [hW2]; exact B2.alloc _
  have R3 : SBox W2 w.heap.size 0 0 0 0 0 0 0 := by rw [hW2]; exact Blk.alloc (t := 29) R2 _
  have N3 : Blk W2 w2.heap.size 25 #[.int .i64 ((V : Nat) : Int), .int .i64 ((T : Nat) : Int)] := by rw [hW2]; exact Blk.new _ _ _
  have S3 : Src W2 p (K + 14) := by rw [hW2]; exact s2.below ((Below.refl _ _).alloc (Nat.le_refl _) _)
  have HW2 := Lib.hid hW2
  have HB3 := Lib.hid B3
  have HR3 := Lib.hid R3
  have HN3 := Lib.hid N3
  have HSd := Lib.hid (show Src W2.drew p (K + 14) from S3.below (Below.refl _ _).drew)
  have c0 := N3.at 0 (v := .int .i64 (V : Int)) rfl
  have c1 := N3.at 1 (v := .int .i64 (T : Int)) rfl
  have d0 : W2.drew.cell? ⟨w2.heap.size, 0, none⟩ = some (.int .i64 (V : Int)) := c0
  have d1 : W2.drew.cell? ⟨w2.heap.size, 1, none⟩ = some (.int .i64 (T : Int)) := c1
  obtain ⟨b, hb⟩ : ∃ b, b = w2.heap.size := ⟨_, rfl⟩
  rw [← hb] at c0 c1 d0 d1 HN3
  have hbn : b ≠ p := by omega
  have hnb : w.heap.size ≠ b := by omega
  have hnb' : b ≠ w.heap.size := by omega
  have FA : Hid (∀ w6, W2.drew.grownBy w6 (some p) → w6.cell? ⟨b, 0, none⟩ = some (.int .i64 (V : Int)) ∧ w6.cell? ⟨b, 1, none⟩ = some (.int .i64 (T : Int)) ∧ Hid (Beside p w w6) ∧ Hid (SBox w6 w.heap.size 0 0 0 0 0 0 0)) := Lib.hid fun w6 g => by
   have n := HN3.out.drew.src g hbn
   exact ⟨n.at 0 rfl, n.at 1 rfl, Lib.hid (HB3.out.drew.trans (Beside.grown g)), Lib.hid (Blk.src (t := 29) (Blk.drew (t := 29) HR3.out) g (by omega))⟩
  have hb' := Lib.hid hb
  clear hW2 B3 R3 N3 S3 b2 B2 R2 s2 hb
  go_wp2_with fail
  rw [← hb'.out, ← HW2.out]
  go_region_held3 (fun w' => w'.cell? ⟨b, 0, none⟩ = some (.int .i64 (V : Int)) ∧ w'.cell? ⟨b, 1, none⟩ = some (.int .i64 (T : Int)))
   (first
    | go_keep
    | exact ⟨k0, k1⟩
    | exact ⟨off7 k0 hnb, off7 k1 hnb⟩)
   (first
    | (go_at_call 60; refine (pick_any p (K + 14) _ _ HSd.out (by omega)).mono ?_; rintro e w6 ⟨x, rfl, hx, s6, g6⟩; obtain ⟨k0, k1, hb6, hr6⟩ := FA.out w6 g6; have HS6 := Lib.hid s6; clear s6 g6; have q0 := (hr6.out).c0; have q1 := (hr6.out).c1; have q2 := (hr6.out).c2; have q3 := (hr6.out).c3; have q4 := (hr6.out).c4; have q5 := (hr6.out).c5; have q6 := (hr6.out).c6; have z0 := (hr6.out).frz 0; have z1 := (hr6.out).frz 1; have z2 := (hr6.out).frz 2; have z3 := (hr6.out).frz 3; have z4 := (hr6.out).frz 4; have z5 := (hr6.out).frz 5; have z6 := (hr6.out).frz 6))
  all_goals
   have hx2 : x < 2 ^ V := by
    have := Nat.two_pow_pos V
    rw [shlN hV] at hx
    omega
   obtain ⟨hS, hR⟩ := EndS (regStream hV hT hx2) hb6.out hr6.out HS6.out hp
   have q0 := (hS).c0; have q1 := (hS).c1; have q2 := (hS).c2; have q3 := (hS).c3; have q4 := (hS).c4; have q5 := (hS).c5; have q6 := (hS).c6
   simp only [set7] at q0 q1 q2 q3 q4 q5 q6
   have HR := Lib.hid hR
   clear hR hS
   go_wp2
   exact bodyPost_ret (v := .agg #[.int .i64 0, .int .i64 V, .int .i64 T, .int .i64 0, .int .i64 0, .int .i64 0, .int .i64 x]) (by simp [results, Tryz.results28, go_sem, q0, q1, q2, q3, q4, q5, q6]) rfl HR.out
 | false =>
  have HD := Lib.hid (l03DrawOk_any p (K + 2) w1 HS1.out (by omega))
  go_wp2_with fail
  refine HD.out.mono ?_
  rintro e w2 ⟨m, f, a, hm, hm2, hf, ha, rfl, s2, b2⟩
  have B2 := HB1.out.trans b2
  have R2 : SBox w2 w.heap.size 0 0 0 0 0 0 0 := Blk.beside (t := 29) HR1.out b2 (by omega)
  obtain ⟨W2, hW2⟩ : ∃ W2, W2 = w2.alloc (.cells #[.int .i64 ((m : Nat) : Int), .int .i64 ((f : Nat) : Int), .int .i64 ((a : Nat) : Int)] 27) := ⟨_, rfl⟩
  have hz2 : w.heap.size < w2.heap.size := SBox.lt R2
  have B3 : Beside p w W2 := by rw [hW2]; exact B2.alloc _
  have R3 : SBox W2 w.heap.size 0 0 0 0 0 0 0 := by rw [hW2]; exact Blk.alloc (t := 29) R2 _
  have N3 : Blk W2 w2.heap.size 27 #[.int .i64 ((m : Nat) : Int), .int .i64 ((f : Nat) : Int), .int .i64 ((a : Nat) : Int)] := by rw [hW2]; exact Blk.new _ _ _
  have S3 : Src W2 p (K + 14) := by rw [hW2]; exact s2.below ((Below.refl _ _).alloc (Nat.le_refl _) _)
  have HW2 := Lib.hid hW2
  have HB3 := Lib.hid B3
  have HR3 := Lib.hid R3
  have HN3 := Lib.hid N3
  have HSd := Lib.hid (show Src W2.drew p (K + 14) from S3.below (Below.refl _ _).drew)
  have c0 := N3.at 0 (v := .int .i64 (m : Int)) rfl
  have c1 := N3.at 1 (v := .int .i64 (f : Int)) rfl
  have c2 := N3.at 2 (v := .int .i64 (a : Int)) rfl
  have d0 : W2.drew.cell? ⟨w2.heap.size, 0, none⟩ = some (.int .i64 (m : Int)) := c0
  have d1 : W2.drew.cell? ⟨w2.heap.size, 1, none⟩ = some (.int .i64 (f : Int)) := c1
  have d2 : W2.drew.cell? ⟨w2.heap.size, 2, none⟩ = some (.int .i64 (a : Int)) := c2
  obtain ⟨b, hb⟩ : ∃ b, b = w2.heap.size := ⟨_, rfl⟩
  rw [← hb] at c0 c1 c2 d0 d1 d2 HN3
  have hbn : b ≠ p := by omega
  have hnb : w.heap.size ≠ b := by omega
  have hnb' : b ≠ w.heap.size := by omega
  have FA : Hid (∀ w6, W2.drew.grownBy w6 (some p) → w6.cell? ⟨b, 0, none⟩ = some (.int .i64 (m : Int)) ∧ w6.cell? ⟨b, 1, none⟩ = some (.int .i64 (f : Int)) ∧ w6.cell? ⟨b, 2, none⟩ = some (.int .i64 (a : Int)) ∧ Hid (Beside p w w6) ∧ Hid (SBox w6 w.heap.size 0 0 0 0 0 0 0)) := Lib.hid fun w6 g => by
   have n := HN3.out.drew.src g hbn
   exact ⟨n.at 0 rfl, n.at 1 rfl, n.at 2 rfl, Lib.hid (HB3.out.drew.trans (Beside.grown g)), Lib.hid (Blk.src (t := 29) (Blk.drew (t := 29) HR3.out) g (by omega))⟩
  have hb' := Lib.hid hb
  clear hW2 B3 R3 N3 S3 b2 B2 R2 s2 hb
  go_wp2_with fail
  rw [← hb'.out, ← HW2.out]
  go_region_held3 (fun w' => w'.cell? ⟨b, 0, none⟩ = some (.int .i64 (m : Int)) ∧ w'.cell? ⟨b, 1, none⟩ = some (.int .i64 (f : Int)) ∧ w'.cell? ⟨b, 2, none⟩ = some (.int .i64 (a : Int)))
   (first
    | go_keep
    | exact ⟨k0, k1, k2⟩
    | exact ⟨off7 k0 hnb, off7 k1 hnb, off7 k2 hnb⟩)
   (first
    | (go_at_call 60; refine (pick_any p (K + 14) _ _ HSd.out (by omega)).mono ?_; rintro e w6 ⟨x, rfl, hx, s6, g6⟩; obtain ⟨k0, k1, k2, hb6, hr6⟩ := FA.out w6 g6; have HS6 := Lib.hid s6; clear s6 g6; have q0 := (hr6.out).c0; have q1 := (hr6.out).c1; have q2 := (hr6.out).c2; have q3 := (hr6.out).c3; have q4 := (hr6.out).c4; have q5 := (hr6.out).c5; have q6 := (hr6.out).c6; have z0 := (hr6.out).frz 0; have z1 := (hr6.out).frz 1; have z2 := (hr6.out).frz 2; have z3 := (hr6.out).frz 3; have z4 := (hr6.out).frz 4; have z5 := (hr6.out).frz 5; have z6 := (hr6.out).frz 6))
  all_goals
   have hx2 : x < m := by omega
   obtain ⟨hS, hR⟩ := EndS (conStream hm (by omega) hf ha hx2) hb6.out hr6.out HS6.out hp
   have q0 := (hS).c0; have q1 := (hS).c1; have q2 := (hS).c2; have q3 := (hS).c3; have q4 := (hS).c4; have q5 := (hS).c5; have q6 := (hS).c6
   simp only [set7] at q0 q1 q2 q3 q4 q5 q6
   have HR := Lib.hid hR
   clear hR hS
   go_wp2
   exact bodyPost_ret (v := .agg #[.int .i64 1, .int .i64 0, .int .i64 0, .int .i64 m, .int .i64 f, .int .i64 a, .int .i64 x]) (by simp [results, Tryz.results28, go_sem, q0, q1, q2, q3, q4, q5, q6]) rfl HR.out
def B10S (w : World) (e : Ending) (w' : World) : Prop := ∃ C W T m f a s : Int, streamB C W T m f a s = true ∧ e = .returned (.agg #[.int .i64 C, .int .i64 W, .int .i64 T, .int .i64 m, .int .i64 f, .int .i64 a, .int .i64 s]) ∧ Below w.heap.size w w'
set_option maxHeartbeats 1000000 in
set_option maxRecDepth 100000 in
theorem b10Stream_any (A : Option Addr) (c B : Nat) (zs : List Int) (w : World) (hx : RdB w B A zs) (hB : B ≤ w.heap.size) (hl : zs.length ≤ 9223372036854775807) (hz : ∀ z ∈ zs, 0 ≤ z ∧ z ≤ 255) :
  Calls Tryz.prog 6 #[.slice A zs.length c] w (B10S w) := by
 obtain ⟨W0, hW0⟩ : ∃ W0, W0 = w.alloc (.cells #[.int .i64 0, .int .i64 0, .int .i64 0, .int .i64 0, .int .i64 0, .int .i64 0, .int .i64 0] 29) := ⟨_, rfl⟩
 have e0 : W0.heap.size = w.heap.size + 1 := by rw [hW0]; simp
 have B0 : Below w.heap.size w W0 := by rw [hW0]; exact (Below.refl _ _).alloc (Nat.le_refl _) _
 have R0 : SBox W0 w.heap.size 0 0 0 0 0 0 0 := by rw [hW0]; exact SBox.new _ _ _ _ _ _ _ _
 have HF := Lib.hid (from_any A c w.heap.size zs W0 ((hx.below B0 hB).more hB) (by omega) hl hz)
 rw [e0] at HF
 have HW := Lib.hid hW0
 have HB0 := Lib.hid B0
 have HR0 := Lib.hid R0
 have E0 := Lib.hid e0
 clear hW0 B0 R0 hx hz e0
 go_enter Tryz.func6, Tryz.ntmps6
 go_wp2_with fail
 rw [← HW.out]
 refine HF.out.mono ?_
 rintro e w1 ⟨rfl, s1, b1⟩
 have B1 := Lib.hid (HB0.out.trans (b1.mono (by have := E0.out; omega)))
 have R1 := Lib.hid (HR0.out.below b1 (by omega))
 have HD := Lib.hid (l11DrawOk_any (w.heap.size + 1) 0 w1 s1 (by decide))
 have hz1 := s1.lt
 clear s1 b1
 go_wp2_with fail
 refine HD.out.mono ?_
 rintro e w2 ⟨C, W, T, m, f, a, s, hs, rfl, s2, bs2⟩
 have B2 := B1.out.trans (bs2.below (Nat.le_succ _) (by have := B1.out.size; omega))
 have R2 : SBox w2 w.heap.size 0 0 0 0 0 0 0 := Blk.beside (t := 29) R1.out bs2 (by omega)
 have d0 := (R2).c0; have d1 := (R2).c1; have d2 := (R2).c2; have d3 := (R2).c3; have d4 := (R2).c4; have d5 := (R2).c5; have d6 := (R2).c6
 have g0 := (R2).frz 0; have g1 := (R2).frz 1; have g2 := (R2).frz 2; have g3 := (R2).frz 3; have g4 := (R2).frz 4; have g5 := (R2).frz 5; have g6 := (R2).frz 6
 have S8 := R2.set7 C W T m f a s
 have p0 := (S8).c0; have p1 := (S8).c1; have p2 := (S8).c2; have p3 := (S8).c3; have p4 := (S8).c4; have p5 := (S8).c5; have p6 := (S8).c6
 simp only [set7] at p0 p1 p2 p3 p4 p5 p6
 have HB2 := Lib.hid (Skip.below_set7 (b := w.heap.size) B2 (Nat.le_refl _) B2.size C W T m f a s)
 have HS := Lib.hid hs
 clear S8 R2 B2 bs2 s2 hs
 go_wp2
 exact bodyPost_ret (v := .agg #[.int .i64 C, .int .i64 W, .int .i64 T, .int .i64 m, .int .i64 f, .int .i64 a, .int .i64 s]) (by simp [results, Tryz.results6, go_sem, p0, p1, p2, p3, p4, p5, p6]) rfl ⟨C, W, T, m, f, a, s, HS.out, rfl, HB2.out⟩
end Go.Proofs.YtgipnbeipfhekaaGreatDoor.Draw
namespace Go.Proofs.YtgipnbeipfhekaaGreatDoor.Str
open Go.RowKit Go.Proofs.YtgipnbeipfhekaaGreatDoor Go.Proofs.YtgipnbeipfhekaaGreatDoor.Base
set_option linter.unusedVariables false
def splitB (n l : Int) : Bool := inR n 1 8 && inR l 1 1000000
end Go.Proofs.YtgipnbeipfhekaaGreatDoor.Str
namespace Go.Proofs.YtgipnbeipfhekaaGreatDoor.ApartL
open Go.RowKit Go.Proofs.YtgipnbeipfhekaaGreatDoor Go.Proofs.YtgipnbeipfhekaaGreatDoor.Base Go.Proofs.YtgipnbeipfhekaaGreatDoor.Mem Go.Proofs.YtgipnbeipfhekaaGreatDoor.Str Go.Proofs.YtgipnbeipfhekaaGreatDoor.Take Go.Proofs.YtgipnbeipfhekaaGreatDoor.Skip Go.Proofs.YtgipnbeipfhekaaGreatDoor.CycM Go.Proofs.YtgipnbeipfhekaaGreatDoor.ApartM
set_option linter.unusedVariables false
def AtRet (n : Int) (w : World) (e : Ending) (w' : World) : Prop := ∃ r : Int, 0 ≤ r ∧ r < n ∧ e = .returned (.int .i64 r) ∧ w = w'
theorem b10At_any (A : Option Addr) (c B : Nat) (zs : List Int) (i n : Int) (w : World) (hz : ∀ z ∈ zs, 0 ≤ z ∧ z ≤ 255) (hl : zs.length ≤ 9223372036854775807) (hr : RdB w B A zs) (hi : i = 0 ∨ i = 1) (hn : 2 ≤ n) :
  Calls Tryz.prog 7 #[.slice A zs.length c, .int .i64 i, .int .i64 n] w (AtRet n w) := by
 by_cases h2 : (zs.length : Int) ≤ i
 ·have q0 : 0 ≤ (i * 37 + 11) % n := Int.emod_nonneg _ (by omega)
  have q1 : (i * 37 + 11) % n < n := Int.emod_lt_of_pos _ (by omega)
  clear hr hz
  rcases hi with rfl | rfl
  all_goals
   simp only [Int.zero_mul, Int.one_mul, Int.zero_add, Int.reduceAdd] at q0 q1
   go_enter Tryz.func7, Tryz.ntmps7
   go_wp2
   go_ret
   exact ⟨_, q0, q1, rfl, rfl⟩
 ·obtain ⟨j, rfl⟩ := Int.eq_ofNat_of_zero_le (show 0 ≤ i by omega)
  have h3 : j < zs.length := by omega
  obtain ⟨b, off, rfl, _, hc⟩ := hr (by omega)
  have g := hc j h3
  have hm := hz (zs.getD j 0) (by simp [List.getD, h3])
  obtain ⟨m1, m2⟩ := hm
  clear hc hr hz
  generalize zs.getD j 0 = z at *
  have hq0 : 0 ≤ z % n := Int.emod_nonneg _ (by omega)
  have hq1 : z % n < n := Int.emod_lt_of_pos _ (by omega)
  have hj : (j : Int) ≤ 1 := by omega
  clear hi
  go_enter Tryz.func7, Tryz.ntmps7
  go_wp2
  go_ret
  exact ⟨_, hq0, hq1, rfl, rfl⟩
end Go.Proofs.YtgipnbeipfhekaaGreatDoor.ApartL

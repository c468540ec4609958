/- What is drawn is valid: one of some numbers, a congruence. -/
import Derived.Test.YtgipnbeipfhekaaGreatDoorMgFnL00
import Derived.Deep.RegionHeld3
import Derived.Laws.BitsAllLaws
import Derived.Laws.BitsLemmas
import Derived.Lib.Builder
import Derived.Lib.UnsafeStr
import Derived.Lib.Strings
import Derived.Lib.Walk
import Derived.Laws.Externs
import Derived.Shelf.RegionOpenPlain
set_option linter.unusedVariables false
set_option linter.unusedSimpArgs false
set_option maxRecDepth 100000
set_option maxHeartbeats 2000000
namespace Go.Proofs.YtgipnbeipfhekaaGreatDoor
namespace Draw
open Go.RowKit Base Mem YtgipnbeipfhekaaGreatDoor.Src Blk YtgipnbeipfhekaaGreatDoor.Pow
theorem Src.set' {w : World} {p K : Nat} (h : Src w p K) {a : Addr} (ha : p < a.block) (v : Value) : Src (w.setCell a v) p K := h.kept (grown_setCell w a v) fun g e => by cases e; exact ha
theorem Src.apart {w w' : World} {p q K : Nat} {t : TypeId} {cs : Array Value} (h : Src w p K) (hb : Blk w q t cs) (hcs : ∀ (i : Nat) (n : Int), cs[i]? ≠ some (.int .u8 n)) (hq : q ≠ p) (hg : w.grownBy w' (some q)) : Src w' p K := by
 have hp := h.lt
 obtain ⟨A, c, zs, a, sd, h0, h1, h2, hf, h3, h4, h5, h6, h7, h8⟩ := h.ex
 have hk : ∀ g, g < w.heap.size → g ≠ q → w'.heap[g]? = w.heap[g]? := fun g h1 h2 => hg.block g h1 fun e => h2 (Option.some.inj e)
 have hc : ∀ i, w'.cell? ⟨p, i, none⟩ = w.cell? ⟨p, i, none⟩ := fun i => World.cell?_of_block (a := ⟨p, i, none⟩) (hk p hp (Ne.symm hq))
 refine ⟨A, c, zs, a, sd, (hc 0).trans h0, (hc 1).trans h1, (hc 2).trans h2, fun i => (World.frozen?_of_block (a := ⟨p, i, none⟩) (hk p hp (Ne.symm hq))).trans (hf i), h3, h4, h5, h6, h7, fun hl => ?_⟩
 obtain ⟨b, off, e, hlt, hcell⟩ := h8 hl
 have hbq : b ≠ q := fun e2 => by
  subst e2
  have := hcell 0 hl
  rw [hb.cell] at this
  exact hcs _ _ this
 exact ⟨b, off, e, hlt, fun i hi => (World.cell?_of_block (a := ⟨b, off + i, none⟩) (hk b (by omega) hbq)).trans (hcell i hi)⟩
theorem no8 {a b c : Int} : ∀ (i : Nat) (n : Int), (#[Value.int .i64 a, .int .i64 b, .int .i64 c] : Array Value)[i]? ≠ some (.int .u8 n) := fun i n h => by
 match i with
 | 0 => simp at h
 | 1 => simp at h
 | 2 => simp at h
 | i + 3 => simp at h
theorem Src.put3 {w : World} {p q K : Nat} {t : TypeId} {a b c x y z : Int} (h : Src w p K) (hb : Blk w q t #[.int .i64 a, .int .i64 b, .int .i64 c]) (hq : q ≠ p) : Src (put3 w q (.int .i64 x) (.int .i64 y) (.int .i64 z)) p K :=
 Src.apart (Src.apart (Src.apart h hb no8 hq (grown_setCell w ⟨q, 0, none⟩ _)) (hb.setTo 0 _ rfl) no8 hq (grown_setCell _ ⟨q, 1, none⟩ _)) ((hb.setTo 0 _ rfl).setTo 1 _ rfl) no8 hq (grown_setCell _ ⟨q, 2, none⟩ _)
def AmongRet (p K : Nat) (xs : List Int) (w : World) (e : Ending) (w' : World) : Prop := ∃ r : Nat, e = .returned (.int .i64 (xs.getD r 0)) ∧ r < xs.length ∧ Src w' p K ∧ w.grownBy w' (some p)
theorem among_any (p K b c : Nat) (xs : List Int) (w : World) (h : Src w p K) (hK : K ≤ 1000000000000) (hb : b ≠ p) (hlt : b < w.heap.size) (hl : 1 ≤ xs.length) (hm : xs.length ≤ 1000000) (hc : ∀ i, i < xs.length → w.cell? ⟨b, i, none⟩ = some (.int .i64 (xs.getD i 0))) :
  Calls Tryz.prog 115 #[.pointer (some ⟨p, 0, none⟩), .slice (some ⟨b, 0, none⟩) xs.length c] w (AmongRet p (K + 2) xs w) := by
 have HP := J (pick_any p K xs.length w h hK)
 have HCc := J hc
 clear h hc
 go_enter Tryz.func115, Tryz.ntmps115
 go_wp2_with fail
 refine HP.out.mono ?_
 rintro e w1 ⟨r, rfl, hr, s1, g1⟩
 have hr' : r < xs.length := by omega
 have hcell : w1.cell? ⟨b, r, none⟩ = some (.int .i64 (xs.getD r 0)) := (World.cell?_of_block (a := ⟨b, r, none⟩) (g1.block b hlt fun e => hb (Option.some.inj e))).trans (HCc.out r hr')
 have S1 := J s1
 have G1 := J g1
 clear s1 g1 hr
 have HR : Hid (∀ v, v = xs.getD r 0 → AmongRet p (K + 2) xs w (.returned (.int .i64 v)) w1) := J fun v hv => ⟨r, by rw [hv], hr', S1.out, G1.out⟩
 generalize xs.getD r 0 = v at *
 go_wp2
 go_ret
 exact HR.out _ rfl
def CongRet (p K : Nat) (w : World) (e : Ending) (w' : World) : Prop := ∃ m f a : Nat, 2 ≤ m ∧ m ≤ 5000 ∧ f < m ∧ a < m ∧ e = .returned (.agg #[.int .i64 ((m : Nat) : Int), .int .i64 ((f : Nat) : Int), .int .i64 ((a : Nat) : Int)]) ∧ Src w' p K ∧ Beside p w w'
theorem End.plain {p K m f a : Nat} {w w8 : World} (hm : 2 ≤ m) (hm2 : m ≤ 5000) (hf : f < m) (ha : a < m) (hb : Beside p w w8) (hr : Blk w8 w.heap.size 27 #[.int .i64 0, .int .i64 0, .int .i64 0]) (hs : Src w8 p K) (hp : p < w.heap.size) :
  let w9 := ((w8.setCell ⟨w.heap.size, 0, none⟩ (.int .i64 (m : Int))).setCell ⟨w.heap.size, 1, none⟩ (.int .i64 (f : Int))).setCell ⟨w.heap.size, 2, none⟩ (.int .i64 (a : Int))
  w9.cell? ⟨w.heap.size, 0, none⟩ = some (.int .i64 (m : Int)) ∧ w9.cell? ⟨w.heap.size, 1, none⟩ = some (.int .i64 (f : Int)) ∧ w9.cell? ⟨w.heap.size, 2, none⟩ = some (.int .i64 (a : Int)) ∧ CongRet p K w (.returned (.agg #[.int .i64 ((m : Nat) : Int), .int .i64 ((f : Nat) : Int), .int .i64 ((a : Nat) : Int)])) w9 := by
 have S := hr.set3 (.int .i64 (m : Int)) (.int .i64 (f : Int)) (.int .i64 (a : Int))
 refine ⟨S.at 0 rfl, S.at 1 rfl, S.at 2 rfl, m, f, a, hm, hm2, hf, ha, rfl, ?_, ?_⟩
 ·exact Src.set' (Src.set' (Src.set' hs (a := ⟨w.heap.size, 0, none⟩) hp _) (a := ⟨w.heap.size, 1, none⟩) hp _) (a := ⟨w.heap.size, 2, none⟩) hp _
 ·exact ((hb.set (a := ⟨w.heap.size, 0, none⟩) (Nat.le_refl _) _).set (a := ⟨w.heap.size, 1, none⟩) (Nat.le_refl _) _).set (a := ⟨w.heap.size, 2, none⟩) (Nat.le_refl _) _
theorem End.half {p K m F a b : Nat} {w w8 : World} (hm : 2 ≤ m) (hm2 : m ≤ 5000) (ha : a < m) (h4 : 4 < m) (hb : Beside p w w8) (hr : Blk w8 w.heap.size 27 #[.int .i64 0, .int .i64 0, .int .i64 0]) (hs : Src w8 p K) (hp : p < w.heap.size) (hbb : w.heap.size < b) :
  let w9 := (((w8.setCell ⟨b, 1, none⟩ (.int .i64 (1 + (m : Int) / 2))).setCell ⟨w.heap.size, 0, none⟩ (.int .i64 (m : Int))).setCell ⟨w.heap.size, 1, none⟩ (.int .i64 (1 + (m : Int) / 2))).setCell ⟨w.heap.size, 2, none⟩ (.int .i64 (a : Int))
  w9.cell? ⟨w.heap.size, 0, none⟩ = some (.int .i64 (m : Int)) ∧ w9.cell? ⟨w.heap.size, 1, none⟩ = some (.int .i64 ((1 + m / 2 : Nat) : Int)) ∧ w9.cell? ⟨w.heap.size, 2, none⟩ = some (.int .i64 (a : Int)) ∧ CongRet p K w (.returned (.agg #[.int .i64 ((m : Nat) : Int), .int .i64 ((1 + m / 2 : Nat) : Int), .int .i64 ((a : Nat) : Int)])) w9 := by
 have e : (1 : Int) + (m : Int) / 2 = ((1 + m / 2 : Nat) : Int) := by simp
 rw [e]
 exact End.plain (f := 1 + m / 2) hm hm2 (by omega) ha (hb.set (a := ⟨b, 1, none⟩) (Nat.le_of_lt hbb) _) (hr.other (a := ⟨b, 1, none⟩) _ (by show b ≠ w.heap.size; omega)) (Src.set' hs (a := ⟨b, 1, none⟩) (by show p < b; omega) _) hp
theorem lits_cell {W : World} {b : Nat} {xs : List Int} (h : Blk W b 2 (ints xs).toArray) : ∀ i, i < xs.length → W.cell? ⟨b, i, none⟩ = some (.int .i64 (xs.getD i 0)) := fun i hi => by
 rw [h.cell i, List.getElem?_toArray, ints_get xs i hi]
theorem l03DrawOk_any (p K : Nat) (w : World) (h : Src w p K) (hK : K ≤ 100000000000) :
  Calls Tryz.prog 65 #[.pointer (some ⟨p, 0, none⟩)] w (CongRet p (K + 12) w) := by
 have hp := h.lt
 obtain ⟨W0, hW0⟩ : ∃ W0, W0 = w.alloc (.cells #[.int .i64 0, .int .i64 0, .int .i64 0] 27) := ⟨_, rfl⟩
 have B0 : Beside p w W0 := by rw [hW0]; exact (Beside.refl p w).alloc _
 have R0 : Blk W0 w.heap.size 27 #[.int .i64 0, .int .i64 0, .int .i64 0] := by rw [hW0]; exact Blk.new _ _ _
 have S0 : Src W0 p K := by rw [hW0]; exact h.below ((Below.refl _ _).alloc (Nat.le_refl _) _)
 have HW := J hW0
 have HB0 := J B0
 have HR0 := J R0
 have HP := J (pick_any p K 60 W0 S0 (by omega))
 clear hW0 B0 R0 S0 h
 go_enter Tryz.func65, Tryz.ntmps65
 go_wp2_with fail
 rw [← HW.out]
 refine HP.out.mono ?_
 rintro e w1 ⟨r1, rfl, hr1, s1, g1⟩
 have B1 := J (HB0.out.trans (Beside.grown g1))
 have R1 := J (HR0.out.src g1 (by omega))
 have HP2 := J (pick_any p (K + 2) 8 w1 s1 (by omega))
 clear s1 g1
 go_wp2_with fail
 refine HP2.out.mono ?_
 rintro e w2 ⟨r2, rfl, hr2, s2, g2⟩
 have B2 := J (B1.out.trans (Beside.grown g2))
 have R2 := J (R1.out.src g2 (by omega))
 have S2 := J s2
 clear s2 g2 B1 R1 HB0 HR0
 by_cases h0 : r2 = 0
 ·subst h0
  have HP3 := J (pick_any p (K + 4) 4000 w2 S2.out (by omega))
  go_wp2_with fail
  refine HP3.out.mono ?_
  rintro e w3 ⟨r3, rfl, hr3, s3, g3⟩
  obtain ⟨M, hM⟩ : ∃ M : Nat, (2 : Int) + (r3 : Int) = (M : Int) := ⟨2 + r3, by simp⟩
  have hM2 : 2 ≤ M := by omega
  have hM5 : M ≤ 5000 := by omega
  have S3 := J s3
  have B3 := J (B2.out.trans (Beside.grown g3))
  have R3 := J (R2.out.src g3 (by omega))
  clear s3 g3 hr3 hr1 hr2
  have HP4 := J (pick_any p (K + 6) M w3 S3.out (by omega))
  go_wp2_with fail
  refine HP4.out.mono ?_
  rintro e w4 ⟨F, rfl, hF, s4, g4⟩
  have hF2 : F < M := by omega
  have B4 := B3.out.trans (Beside.grown g4)
  have R4 := R3.out.src g4 (by omega)
  have hz4 := R4.lt
  have hp4 : p < w4.heap.size := by omega
  obtain ⟨W4, hW4⟩ : ∃ W4, W4 = w4.alloc (.cells #[.int .i64 (M : Int), .int .i64 (F : Int), .int .i64 0] 27) := ⟨_, rfl⟩
  have B5 : Beside p w W4 := by rw [hW4]; exact B4.alloc _
  have R5 : Blk W4 w.heap.size 27 #[.int .i64 0, .int .i64 0, .int .i64 0] := by rw [hW4]; exact R4.alloc _
  have S5 : Src W4 p (K + 8) := by rw [hW4]; exact s4.below ((Below.refl _ _).alloc (Nat.le_refl _) _)
  have N5 : Blk W4 w4.heap.size 27 #[.int .i64 (M : Int), .int .i64 (F : Int), .int .i64 0] := by rw [hW4]; exact Blk.new _ _ _
  have HW4 := J hW4
  have HP5 := J (pick_any p (K + 8) M W4 S5 (by omega))
  have HB5 := J B5
  have HR5 := J R5
  have HN5 := J N5
  clear s4 g4 B4 R4 hW4 B5 R5 S5 N5 hF
  go_wp2_with fail
  rw [← HW4.out]
  refine HP5.out.mono ?_
  rintro e w6 ⟨A, rfl, hA, s6, g6⟩
  have hA2 : A < M := by omega
  have B6 := HB5.out.trans (Beside.grown g6)
  have R6 := HR5.out.src g6 (by omega)
  have N6 := HN5.out.src g6 (by omega)
  have n60 := N6.at 0 (v := .int .i64 (M : Int)) rfl
  have n61 := N6.at 1 (v := .int .i64 (F : Int)) rfl
  have n62 := N6.at 2 (v := .int .i64 0) rfl
  have f60 := N6.frz 0
  have f61 := N6.frz 1
  have f62 := N6.frz 2
  obtain ⟨w7, hw7⟩ : ∃ w7, w7 = w6.setCell ⟨w4.heap.size, 2, none⟩ (.int .i64 (A : Int)) := ⟨_, rfl⟩
  have B7 : Beside p w w7 := by rw [hw7]; exact B6.set (by show w.heap.size ≤ w4.heap.size; omega) _
  have R7 : Blk w7 w.heap.size 27 #[.int .i64 0, .int .i64 0, .int .i64 0] := by rw [hw7]; exact R6.other _ (by show w4.heap.size ≠ w.heap.size; omega)
  have N7 : Blk w7 w4.heap.size 27 #[.int .i64 ((M : Nat) : Int), .int .i64 ((F : Nat) : Int), .int .i64 ((A : Nat) : Int)] := by rw [hw7]; exact N6.setTo 2 _ rfl
  have S7 : Src w7 p (K + 10) := by rw [hw7]; exact Src.set' s6 (by show p < w4.heap.size; omega) _
  have HW7 := J hw7
  have HP7 := J (one_any p (K + 10) 4 w7 S7 (by omega))
  have HB7 := J B7
  have HR7 := J R7
  have HN7 := J N7
  clear s6 g6 B6 R6 N6 hw7 B7 R7 S7 N7 hA
  go_wp2_with fail
  rw [← HW7.out]
  refine HP7.out.mono ?_
  rintro e w8 ⟨r8, rfl, s8, g8⟩
  clear n60 n61 n62 f60 f61 f62
  have B8 := HB7.out.trans (Beside.grown g8)
  have R8 := HR7.out.src g8 (by omega)
  have N8 := HN7.out.src g8 (by omega)
  have r80 := R8.at 0 (v := .int .i64 0) rfl
  have r81 := R8.at 1 (v := .int .i64 0) rfl
  have r82 := R8.at 2 (v := .int .i64 0) rfl
  have f80 := R8.frz 0
  have f81 := R8.frz 1
  have f82 := R8.frz 2
  have n80 := N8.at 0 (v := .int .i64 (M : Int)) rfl
  have n81 := N8.at 1 (v := .int .i64 (F : Int)) rfl
  have n82 := N8.at 2 (v := .int .i64 (A : Int)) rfl
  have h80 := N8.frz 0
  have h81 := N8.frz 1
  have h82 := N8.frz 2
  have hne : w4.heap.size ≠ w.heap.size := by omega
  have hne2 : w.heap.size ≠ w4.heap.size := by omega
  have HD0 := J (End.plain (K := K + 12) hM2 hM5 hF2 hA2 B8 R8 s8 hp)
  have HD1 := J (fun h4 => End.half (F := F) (K := K + 12) hM2 hM5 hA2 h4 B8 R8 s8 hp (b := w4.heap.size) (by omega))
  clear B8 R8 N8 s8 g8
  cases r8 with
  | false =>
   go_wp2
   obtain ⟨q0, q1, q2, q3⟩ := HD0.out
   exact bodyPost_ret (v := .agg #[.int .i64 ((M : Nat) : Int), .int .i64 ((F : Nat) : Int), .int .i64 ((A : Nat) : Int)]) (by simp [results, Tryz.results65, go_sem, q0, q1, q2]) rfl q3
  | true =>
   by_cases h4 : (M : Int) > 4
   ·go_wp2
    obtain ⟨q0, q1, q2, q3⟩ := HD1.out (by omega)
    exact bodyPost_ret (v := .agg #[.int .i64 ((M : Nat) : Int), .int .i64 ((1 + M / 2 : Nat) : Int), .int .i64 ((A : Nat) : Int)]) (by simp [results, Tryz.results65, go_sem, q0, q1, q2]) rfl q3
   ·go_wp2
    obtain ⟨q0, q1, q2, q3⟩ := HD0.out
    exact bodyPost_ret (v := .agg #[.int .i64 ((M : Nat) : Int), .int .i64 ((F : Nat) : Int), .int .i64 ((A : Nat) : Int)]) (by simp [results, Tryz.results65, go_sem, q0, q1, q2]) rfl q3
 ·by_cases h1 : r2 = 1
  ·subst h1
   obtain ⟨W2, hW2⟩ : ∃ W2, W2 = w2.alloc (.cells #[.int .i64 16, .int .i64 64, .int .i64 256, .int .i64 100, .int .i64 81, .int .i64 31, .int .i64 127] 2) := ⟨_, rfl⟩
   have hz2 := R2.out.lt
   have S2' : Src W2 p (K + 4) := by rw [hW2]; exact S2.out.below ((Below.refl _ _).alloc (Nat.le_refl _) _)
   have hcs : ∀ i, i < [16, 64, 256, 100, 81, 31, 127].length → W2.cell? ⟨w2.heap.size, i, none⟩ = some (.int .i64 (([16, 64, 256, 100, 81, 31, 127] : List Int).getD i 0)) := by
    rw [hW2]; exact lits_cell (xs := [16, 64, 256, 100, 81, 31, 127]) (Blk.new w2 2 _)
   have HP3 := J (among_any p (K + 4) w2.heap.size 7 [16, 64, 256, 100, 81, 31, 127] W2 S2' (by omega) (by omega) (by rw [hW2]; simp) (by decide) (by decide) hcs)
   have BW2 := J (show Beside p w W2 by rw [hW2]; exact B2.out.alloc _)
   have RW2 := J (show Blk W2 w.heap.size 27 #[.int .i64 0, .int .i64 0, .int .i64 0] by rw [hW2]; exact R2.out.alloc _)
   have HW2 := J hW2
   clear hW2 S2' hcs
   go_wp2_with fail
   rw [← HW2.out]
   refine HP3.out.mono ?_
   rintro e w3 ⟨r3, rfl, hr3, s3, g3⟩
   have hv : ∀ r, r < 7 → 2 ≤ ([16, 64, 256, 100, 81, 31, 127] : List Int).getD r 0 ∧ ([16, 64, 256, 100, 81, 31, 127] : List Int).getD r 0 ≤ 5000 := by decide
   obtain ⟨hv1, hv2⟩ := hv r3 hr3
   generalize ([16, 64, 256, 100, 81, 31, 127] : List Int).getD r3 0 = v at *
   obtain ⟨M, rfl⟩ := Int.eq_ofNat_of_zero_le (show 0 ≤ v by omega)
   have hM2 : 2 ≤ M := by omega
   have hM5 : M ≤ 5000 := by omega
   have S3 := J s3
   have B3 := J (BW2.out.trans (Beside.grown g3))
   have R3 := J (RW2.out.src g3 (by omega))
   clear s3 g3 hr3 hr1 hr2 hv hv1 hv2
   have HP4 := J (pick_any p (K + 6) M w3 S3.out (by omega))
   go_wp2_with fail
   refine HP4.out.mono ?_
   rintro e w4 ⟨F, rfl, hF, s4, g4⟩
   have hF2 : F < M := by omega
   have B4 := B3.out.trans (Beside.grown g4)
   have R4 := R3.out.src g4 (by omega)
   have hz4 := R4.lt
   have hp4 : p < w4.heap.size := by omega
   obtain ⟨W4, hW4⟩ : ∃ W4, W4 = w4.alloc (.cells #[.int .i64 (M : Int), .int .i64 (F : Int), .int .i64 0] 27) := ⟨_, rfl⟩
   have B5 : Beside p w W4 := by rw [hW4]; exact B4.alloc _
   have R5 : Blk W4 w.heap.size 27 #[.int .i64 0, .int .i64 0, .int .i64 0] := by rw [hW4]; exact R4.alloc _
   have S5 : Src W4 p (K + 8) := by rw [hW4]; exact s4.below ((Below.refl _ _).alloc (Nat.le_refl _) _)
   have N5 : Blk W4 w4.heap.size 27 #[.int .i64 (M : Int), .int .i64 (F : Int), .int .i64 0] := by rw [hW4]; exact Blk.new _ _ _
   have HW4 := J hW4
   have HP5 := J (pick_any p (K + 8) M W4 S5 (by omega))
   have HB5 := J B5
   have HR5 := J R5
   have HN5 := J N5
   clear s4 g4 B4 R4 hW4 B5 R5 S5 N5 hF
   go_wp2_with fail
   rw [← HW4.out]
   refine HP5.out.mono ?_
   rintro e w6 ⟨A, rfl, hA, s6, g6⟩
   have hA2 : A < M := by omega
   have B6 := HB5.out.trans (Beside.grown g6)
   have R6 := HR5.out.src g6 (by omega)
   have N6 := HN5.out.src g6 (by omega)
   have n60 := N6.at 0 (v := .int .i64 (M : Int)) rfl
   have n61 := N6.at 1 (v := .int .i64 (F : Int)) rfl
   have n62 := N6.at 2 (v := .int .i64 0) rfl
   have f60 := N6.frz 0
   have f61 := N6.frz 1
   have f62 := N6.frz 2
   obtain ⟨w7, hw7⟩ : ∃ w7, w7 = w6.setCell ⟨w4.heap.size, 2, none⟩ (.int .i64 (A : Int)) := ⟨_, rfl⟩
   have B7 : Beside p w w7 := by rw [hw7]; exact B6.set (by show w.heap.size ≤ w4.heap.size; omega) _
   have R7 : Blk w7 w.heap.size 27 #[.int .i64 0, .int .i64 0, .int .i64 0] := by rw [hw7]; exact R6.other _ (by show w4.heap.size ≠ w.heap.size; omega)
   have N7 : Blk w7 w4.heap.size 27 #[.int .i64 ((M : Nat) : Int), .int .i64 ((F : Nat) : Int), .int .i64 ((A : Nat) : Int)] := by rw [hw7]; exact N6.setTo 2 _ rfl
   have S7 : Src w7 p (K + 10) := by rw [hw7]; exact Src.set' s6 (by show p < w4.heap.size; omega) _
   have HW7 := J hw7
   have HP7 := J (one_any p (K + 10) 4 w7 S7 (by omega))
   have HB7 := J B7
   have HR7 := J R7
   have HN7 := J N7
   clear s6 g6 B6 R6 N6 hw7 B7 R7 S7 N7 hA
   go_wp2_with fail
   rw [← HW7.out]
   refine HP7.out.mono ?_
   rintro e w8 ⟨r8, rfl, s8, g8⟩
   clear n60 n61 n62 f60 f61 f62
   have B8 := HB7.out.trans (Beside.grown g8)
   have R8 := HR7.out.src g8 (by omega)
   have N8 := HN7.out.src g8 (by omega)
   have r80 := R8.at 0 (v := .int .i64 0) rfl
   have r81 := R8.at 1 (v := .int .i64 0) rfl
   have r82 := R8.at 2 (v := .int .i64 0) rfl
   have f80 := R8.frz 0
   have f81 := R8.frz 1
   have f82 := R8.frz 2
   have n80 := N8.at 0 (v := .int .i64 (M : Int)) rfl
   have n81 := N8.at 1 (v := .int .i64 (F : Int)) rfl
   have n82 := N8.at 2 (v := .int .i64 (A : Int)) rfl
   have h80 := N8.frz 0
   have h81 := N8.frz 1
   have h82 := N8.frz 2
   have hne : w4.heap.size ≠ w.heap.size := by omega
   have hne2 : w.heap.size ≠ w4.heap.size := by omega
   have HD0 := J (End.plain (K := K + 12) hM2 hM5 hF2 hA2 B8 R8 s8 hp)
   have HD1 := J (fun h4 => End.half (F := F) (K := K + 12) hM2 hM5 hA2 h4 B8 R8 s8 hp (b := w4.heap.size) (by omega))
   clear B8 R8 N8 s8 g8
   cases r8 with
   | false =>
    go_wp2
    obtain ⟨q0, q1, q2, q3⟩ := HD0.out
    exact bodyPost_ret (v := .agg #[.int .i64 ((M : Nat) : Int), .int .i64 ((F : Nat) : Int), .int .i64 ((A : Nat) : Int)]) (by simp [results, Tryz.results65, go_sem, q0, q1, q2]) rfl q3
   | true =>
    by_cases h4 : (M : Int) > 4
    ·go_wp2
     obtain ⟨q0, q1, q2, q3⟩ := HD1.out (by omega)
     exact bodyPost_ret (v := .agg #[.int .i64 ((M : Nat) : Int), .int .i64 ((1 + M / 2 : Nat) : Int), .int .i64 ((A : Nat) : Int)]) (by simp [results, Tryz.results65, go_sem, q0, q1, q2]) rfl q3
    ·go_wp2
     obtain ⟨q0, q1, q2, q3⟩ := HD0.out
     exact bodyPost_ret (v := .agg #[.int .i64 ((M : Nat) : Int), .int .i64 ((F : Nat) : Int), .int .i64 ((A : Nat) : Int)]) (by simp [results, Tryz.results65, go_sem, q0, q1, q2]) rfl q3
  ·obtain ⟨M, hM⟩ : ∃ M : Nat, (2 : Int) + (r1 : Int) = (M : Int) := ⟨2 + r1, by simp⟩
   have hM2 : 2 ≤ M := by omega
   have hM5 : M ≤ 5000 := by omega
   have h0' : ((r2 : Int) == 0) = false := by simp; omega
   have h1' : ((r2 : Int) == 1) = false := by simp; omega
   have S3 := J (S2.out.more (L := K + 6) (by omega))
   have B3 := B2
   have R3 := R2
   clear hr1 hr2 h0 h1
   have HP4 := J (pick_any p (K + 6) M w2 S3.out (by omega))
   go_wp2_with fail
   refine HP4.out.mono ?_
   rintro e w4 ⟨F, rfl, hF, s4, g4⟩
   have hF2 : F < M := by omega
   have B4 := B3.out.trans (Beside.grown g4)
   have R4 := R3.out.src g4 (by omega)
   have hz4 := R4.lt
   have hp4 : p < w4.heap.size := by omega
   obtain ⟨W4, hW4⟩ : ∃ W4, W4 = w4.alloc (.cells #[.int .i64 (M : Int), .int .i64 (F : Int), .int .i64 0] 27) := ⟨_, rfl⟩
   have B5 : Beside p w W4 := by rw [hW4]; exact B4.alloc _
   have R5 : Blk W4 w.heap.size 27 #[.int .i64 0, .int .i64 0, .int .i64 0] := by rw [hW4]; exact R4.alloc _
   have S5 : Src W4 p (K + 8) := by rw [hW4]; exact s4.below ((Below.refl _ _).alloc (Nat.le_refl _) _)
   have N5 : Blk W4 w4.heap.size 27 #[.int .i64 (M : Int), .int .i64 (F : Int), .int .i64 0] := by rw [hW4]; exact Blk.new _ _ _
   have HW4 := J hW4
   have HP5 := J (pick_any p (K + 8) M W4 S5 (by omega))
   have HB5 := J B5
   have HR5 := J R5
   have HN5 := J N5
   clear s4 g4 B4 R4 hW4 B5 R5 S5 N5 hF
   go_wp2_with fail
   rw [← HW4.out]
   refine HP5.out.mono ?_
   rintro e w6 ⟨A, rfl, hA, s6, g6⟩
   have hA2 : A < M := by omega
   have B6 := HB5.out.trans (Beside.grown g6)
   have R6 := HR5.out.src g6 (by omega)
   have N6 := HN5.out.src g6 (by omega)
   have n60 := N6.at 0 (v := .int .i64 (M : Int)) rfl
   have n61 := N6.at 1 (v := .int .i64 (F : Int)) rfl
   have n62 := N6.at 2 (v := .int .i64 0) rfl
   have f60 := N6.frz 0
   have f61 := N6.frz 1
   have f62 := N6.frz 2
   obtain ⟨w7, hw7⟩ : ∃ w7, w7 = w6.setCell ⟨w4.heap.size, 2, none⟩ (.int .i64 (A : Int)) := ⟨_, rfl⟩
   have B7 : Beside p w w7 := by rw [hw7]; exact B6.set (by show w.heap.size ≤ w4.heap.size; omega) _
   have R7 : Blk w7 w.heap.size 27 #[.int .i64 0, .int .i64 0, .int .i64 0] := by rw [hw7]; exact R6.other _ (by show w4.heap.size ≠ w.heap.size; omega)
   have N7 : Blk w7 w4.heap.size 27 #[.int .i64 ((M : Nat) : Int), .int .i64 ((F : Nat) : Int), .int .i64 ((A : Nat) : Int)] := by rw [hw7]; exact N6.setTo 2 _ rfl
   have S7 : Src w7 p (K + 10) := by rw [hw7]; exact Src.set' s6 (by show p < w4.heap.size; omega) _
   have HW7 := J hw7
   have HP7 := J (one_any p (K + 10) 4 w7 S7 (by omega))
   have HB7 := J B7
   have HR7 := J R7
   have HN7 := J N7
   clear s6 g6 B6 R6 N6 hw7 B7 R7 S7 N7 hA
   go_wp2_with fail
   rw [← HW7.out]
   refine HP7.out.mono ?_
   rintro e w8 ⟨r8, rfl, s8, g8⟩
   clear n60 n61 n62 f60 f61 f62
   have B8 := HB7.out.trans (Beside.grown g8)
   have R8 := HR7.out.src g8 (by omega)
   have N8 := HN7.out.src g8 (by omega)
   have r80 := R8.at 0 (v := .int .i64 0) rfl
   have r81 := R8.at 1 (v := .int .i64 0) rfl
   have r82 := R8.at 2 (v := .int .i64 0) rfl
   have f80 := R8.frz 0
   have f81 := R8.frz 1
   have f82 := R8.frz 2
   have n80 := N8.at 0 (v := .int .i64 (M : Int)) rfl
   have n81 := N8.at 1 (v := .int .i64 (F : Int)) rfl
   have n82 := N8.at 2 (v := .int .i64 (A : Int)) rfl
   have h80 := N8.frz 0
   have h81 := N8.frz 1
   have h82 := N8.frz 2
   have hne : w4.heap.size ≠ w.heap.size := by omega
   have hne2 : w.heap.size ≠ w4.heap.size := by omega
   have HD0 := J (End.plain (K := K + 12) hM2 hM5 hF2 hA2 B8 R8 s8 hp)
   have HD1 := J (fun h4 => End.half (F := F) (K := K + 12) hM2 hM5 hA2 h4 B8 R8 s8 hp (b := w4.heap.size) (by omega))
   clear B8 R8 N8 s8 g8
   cases r8 with
   | false =>
    go_wp2
    obtain ⟨q0, q1, q2, q3⟩ := HD0.out
    exact bodyPost_ret (v := .agg #[.int .i64 ((M : Nat) : Int), .int .i64 ((F : Nat) : Int), .int .i64 ((A : Nat) : Int)]) (by simp [results, Tryz.results65, go_sem, q0, q1, q2]) rfl q3
   | true =>
    by_cases h4 : (M : Int) > 4
    ·go_wp2
     obtain ⟨q0, q1, q2, q3⟩ := HD1.out (by omega)
     exact bodyPost_ret (v := .agg #[.int .i64 ((M : Nat) : Int), .int .i64 ((1 + M / 2 : Nat) : Int), .int .i64 ((A : Nat) : Int)]) (by simp [results, Tryz.results65, go_sem, q0, q1, q2]) rfl q3
    ·go_wp2
     obtain ⟨q0, q1, q2, q3⟩ := HD0.out
     exact bodyPost_ret (v := .agg #[.int .i64 ((M : Nat) : Int), .int .i64 ((F : Nat) : Int), .int .i64 ((A : Nat) : Int)]) (by simp [results, Tryz.results65, go_sem, q0, q1, q2]) rfl q3
end Draw
namespace PopM
def T (B : Nat) : Nat → Nat → Nat
 | 0, _ => 0
 | k + 1, x => x % B + T B k (x / B)
def Fld (B m : Nat) : Nat → Nat → Prop
 | 0, x => x = 0
 | k + 1, x => x % B ≤ m ∧ Fld B m k (x / B)
def mask (B e : Nat) : Nat → Nat
 | 0 => 0
 | k + 1 => e + B * mask B e k
theorem and_split (j a e C : Nat) (he : e < 2 ^ j) : a &&& (e + 2 ^ j * C) = ((a % 2 ^ j) &&& e) + 2 ^ j * ((a / 2 ^ j) &&& C) := by
 have h := Nat.mod_add_div (a &&& (e + 2 ^ j * C)) (2 ^ j)
 rw [Nat.and_mod_two_pow, Nat.and_div_two_pow, Nat.add_mul_mod_self_left, Nat.mod_eq_of_lt he, Nat.add_mul_div_left _ _ (Nat.two_pow_pos j), Nat.div_eq_of_lt he, Nat.zero_add] at h
 exact h.symm
theorem claim1 : ∀ (k x : Nat), x < 4 ^ k → T 4 k ((x / 2 &&& mask 4 1 k) + (x &&& mask 4 1 k)) = T 2 (2 * k) x ∧ Fld 4 2 k ((x / 2 &&& mask 4 1 k) + (x &&& mask 4 1 k))
 | 0, x, h => by simp [mask, T, Fld]
 | k + 1, x, h => by
  have ih := claim1 k (x / 4) (by rw [Nat.pow_succ] at h; omega)
  have e1 := and_split 2 x 1 (mask 4 1 k) (by decide)
  have e2 := and_split 2 (x / 2) 1 (mask 4 1 k) (by decide)
  simp only [show (2 : Nat) ^ 2 = 4 from rfl, nat_mask1] at e1 e2
  have e3 : x / 2 / 4 = x / 4 / 2 := by omega
  rw [e3] at e2
  have hy : (x / 2 &&& mask 4 1 (k + 1)) + (x &&& mask 4 1 (k + 1)) = (x / 2 % 2 + x % 2) + 4 * ((x / 4 / 2 &&& mask 4 1 k) + (x / 4 &&& mask 4 1 k)) := by
   show (x / 2 &&& (1 + 4 * mask 4 1 k)) + (x &&& (1 + 4 * mask 4 1 k)) = _
   rw [e1, e2]; omega
  rw [hy]
  generalize (x / 4 / 2 &&& mask 4 1 k) + (x / 4 &&& mask 4 1 k) = y at *
  have hm : (x / 2 % 2 + x % 2 + 4 * y) % 4 = x / 2 % 2 + x % 2 := by omega
  have hd : (x / 2 % 2 + x % 2 + 4 * y) / 4 = y := by omega
  refine ⟨?_, ?_⟩
  ·show (x / 2 % 2 + x % 2 + 4 * y) % 4 + T 4 k ((x / 2 % 2 + x % 2 + 4 * y) / 4) = x % 2 + (x / 2 % 2 + T 2 (2 * k) (x / 2 / 2))
   rw [hm, hd, ih.1, show x / 2 / 2 = x / 4 by omega]; omega
  ·show (x / 2 % 2 + x % 2 + 4 * y) % 4 ≤ 2 ∧ Fld 4 2 k ((x / 2 % 2 + x % 2 + 4 * y) / 4)
   rw [hm, hd]; exact ⟨by omega, ih.2⟩
theorem claim2 : ∀ (k x : Nat), Fld 4 2 (2 * k) x → T 16 k ((x / 4 &&& mask 16 3 k) + (x &&& mask 16 3 k)) = T 4 (2 * k) x ∧ Fld 16 4 k ((x / 4 &&& mask 16 3 k) + (x &&& mask 16 3 k))
 | 0, x, h => by simp [mask, T, Fld]
 | k + 1, x, h => by
  obtain ⟨h1, h2, h3⟩ : x % 4 ≤ 2 ∧ x / 4 % 4 ≤ 2 ∧ Fld 4 2 (2 * k) (x / 4 / 4) := h
  rw [show x / 4 / 4 = x / 16 by omega] at h3
  have ih := claim2 k (x / 16) h3
  have e1 := and_split 4 x 3 (mask 16 3 k) (by decide)
  have e2 := and_split 4 (x / 4) 3 (mask 16 3 k) (by decide)
  simp only [show (2 : Nat) ^ 4 = 16 from rfl, nat_mask2] at e1 e2
  rw [show x / 4 / 16 = x / 16 / 4 by omega] at e2
  have hy : (x / 4 &&& mask 16 3 (k + 1)) + (x &&& mask 16 3 (k + 1)) = (x / 4 % 4 + x % 4) + 16 * ((x / 16 / 4 &&& mask 16 3 k) + (x / 16 &&& mask 16 3 k)) := by
   show (x / 4 &&& (3 + 16 * mask 16 3 k)) + (x &&& (3 + 16 * mask 16 3 k)) = _
   rw [e1, e2]; omega
  rw [hy]
  generalize (x / 16 / 4 &&& mask 16 3 k) + (x / 16 &&& mask 16 3 k) = y at *
  have hm : (x / 4 % 4 + x % 4 + 16 * y) % 16 = x / 4 % 4 + x % 4 := by omega
  have hd : (x / 4 % 4 + x % 4 + 16 * y) / 16 = y := by omega
  refine ⟨?_, ?_⟩
  ·show (x / 4 % 4 + x % 4 + 16 * y) % 16 + T 16 k ((x / 4 % 4 + x % 4 + 16 * y) / 16) = x % 4 + (x / 4 % 4 + T 4 (2 * k) (x / 4 / 4))
   rw [hm, hd, ih.1, show x / 4 / 4 = x / 16 by omega]; omega
  ·show (x / 4 % 4 + x % 4 + 16 * y) % 16 ≤ 4 ∧ Fld 16 4 k ((x / 4 % 4 + x % 4 + 16 * y) / 16)
   rw [hm, hd]; exact ⟨by omega, ih.2⟩
theorem c3a (x : Nat) (h1 : x % 16 ≤ 4) (h2 : x / 16 % 16 ≤ 4) (h4 : x / 256 % 16 ≤ 4) : (x / 16 + x) / 256 = x / 256 / 16 + x / 256 := by
 obtain ⟨a, ha⟩ : ∃ a, a = x % 16 := ⟨_, rfl⟩
 obtain ⟨b, hb⟩ : ∃ b, b = x / 16 % 16 := ⟨_, rfl⟩
 obtain ⟨e, he⟩ : ∃ e, e = x / 256 % 16 := ⟨_, rfl⟩
 obtain ⟨f, hf⟩ : ∃ f, f = x / 256 / 16 := ⟨_, rfl⟩
 have hx : x = a + 16 * b + 256 * (e + 16 * f) := by omega
 have q1 : x / 16 = b + 16 * (e + 16 * f) := by omega
 have q2 : x / 256 = e + 16 * f := by omega
 have q3 : (e + 16 * f) / 16 = f := by omega
 rw [q1, q2, q3, hx]
 omega
theorem claim3 : ∀ (k x : Nat), Fld 16 4 (2 * k) x → T 256 k ((x / 16 + x) &&& mask 256 15 k) = T 16 (2 * k) x ∧ Fld 256 8 k ((x / 16 + x) &&& mask 256 15 k)
 | 0, x, h => by simp [mask, T, Fld]
 | k + 1, x, h => by
  obtain ⟨h1, h2, h3⟩ : x % 16 ≤ 4 ∧ x / 16 % 16 ≤ 4 ∧ Fld 16 4 (2 * k) (x / 16 / 16) := h
  rw [show x / 16 / 16 = x / 256 by omega] at h3
  have h4 : x / 256 % 16 ≤ 4 := by
   cases k with
   | zero => have h0 : x / 256 = 0 := h3; omega
   | succ k => exact h3.1
  have ih := claim3 k (x / 256) h3
  have e1 := and_split 8 (x / 16 + x) 15 (mask 256 15 k) (by decide)
  simp only [show (2 : Nat) ^ 8 = 256 from rfl, nat_mask4] at e1
  have e2 : (x / 16 + x) / 256 = x / 256 / 16 + x / 256 := c3a x h1 h2 h4
  have e3 : (x / 16 + x) % 256 % 16 = x / 16 % 16 + x % 16 := by omega
  rw [e2, e3] at e1
  have hy : (x / 16 + x) &&& mask 256 15 (k + 1) = (x / 16 % 16 + x % 16) + 256 * ((x / 256 / 16 + x / 256) &&& mask 256 15 k) := e1
  rw [hy]
  generalize (x / 256 / 16 + x / 256) &&& mask 256 15 k = y at *
  have hm : (x / 16 % 16 + x % 16 + 256 * y) % 256 = x / 16 % 16 + x % 16 := by omega
  have hd : (x / 16 % 16 + x % 16 + 256 * y) / 256 = y := by omega
  refine ⟨?_, ?_⟩
  ·show (x / 16 % 16 + x % 16 + 256 * y) % 256 + T 256 k ((x / 16 % 16 + x % 16 + 256 * y) / 256) = x % 16 + (x / 16 % 16 + T 16 (2 * k) (x / 16 / 16))
   rw [hm, hd, ih.1, show x / 16 / 16 = x / 256 by omega]; omega
  ·show (x / 16 % 16 + x % 16 + 256 * y) % 256 ≤ 8 ∧ Fld 256 8 k ((x / 16 % 16 + x % 16 + 256 * y) / 256)
   rw [hm, hd]; exact ⟨by omega, ih.2⟩
theorem fold (A A2 A3 D : Nat) (h1 : A ≤ 4112) (h2 : A2 ≤ 4112) (h3 : A3 ≤ 4112) (hD : D ≤ 4112) (y4 : Nat) (h : y4 = A + 65536 * (A2 + 65536 * (A3 + 65536 * D))) :
  (y4 + y4 / 65536 + (y4 + y4 / 65536) / 4294967296) % 128 = (A + A2 + A3 + D) % 128 := by
 subst h
 have q1 : (A + 65536 * (A2 + 65536 * (A3 + 65536 * D))) / 65536 = A2 + 65536 * (A3 + 65536 * D) := by omega
 rw [q1]
 have q2 : (A + 65536 * (A2 + 65536 * (A3 + 65536 * D)) + (A2 + 65536 * (A3 + 65536 * D))) / 4294967296 = A3 + D + 65536 * D := by omega
 rw [q2]
 omega
theorem dig {k y : Nat} (h : Fld 256 8 (k + 1) y) : ∃ d y', d ≤ 8 ∧ y = d + 256 * y' ∧ Fld 256 8 k y' ∧ ∀ s, T 256 k y' = s → T 256 (k + 1) y = d + s :=
 ⟨y % 256, y / 256, h.1, by omega, h.2, fun s hs => by show y % 256 + T 256 k (y / 256) = _; rw [hs]⟩
theorem Fld.sum {y : Nat} (h : Fld 256 8 8 y) : y < 1157442765409226769 ∧ (y + y / 256 + (y + y / 256) / 65536 + (y + y / 256 + (y + y / 256) / 65536) / 4294967296) % 128 = T 256 8 y ∧ T 256 8 y ≤ 64 := by
 obtain ⟨d0, y1, b0, e0, h, t0⟩ := dig h
 obtain ⟨d1, y2, b1, e1, h, t1⟩ := dig h
 obtain ⟨d2, y3, b2, e2, h, t2⟩ := dig h
 obtain ⟨d3, y4, b3, e3, h, t3⟩ := dig h
 obtain ⟨d4, y5, b4, e4, h, t4⟩ := dig h
 obtain ⟨d5, y6, b5, e5, h, t5⟩ := dig h
 obtain ⟨d6, y7, b6, e6, h, t6⟩ := dig h
 obtain ⟨d7, y8, b7, e7, h, t7⟩ := dig h
 have h8 : y8 = 0 := h
 have ht := t0 _ (t1 _ (t2 _ (t3 _ (t4 _ (t5 _ (t6 _ (t7 0 rfl)))))))
 clear t0 t1 t2 t3 t4 t5 t6 t7 h
 have hq : y / 256 = y1 := by omega
 have hy4 : y + y / 256 = (d0 + d1 + 256 * (d1 + d2)) + 65536 * ((d2 + d3 + 256 * (d3 + d4)) + 65536 * ((d4 + d5 + 256 * (d5 + d6)) + 65536 * (d6 + d7 + 256 * d7))) := by rw [hq]; omega
 have hf := fold _ _ _ _ (by omega) (by omega) (by omega) (by omega) _ hy4
 rw [hf, ht]
 clear hf ht hy4 hq
 exact ⟨by omega, by omega, by omega⟩
def pop (n : Nat) : Nat := T 2 64 n
def par (n : Nat) : Nat := pop n % 2
def S1 (x : Nat) : Nat := (x / 2 &&& 6148914691236517205) + (x &&& 6148914691236517205)
def S2 (x : Nat) : Nat := (x / 4 &&& 3689348814741910323) + (x &&& 3689348814741910323)
def S3 (x : Nat) : Nat := (x / 16 + x) &&& 1085102592571150095
theorem pop_le {n : Nat} (hn : n < 18446744073709551616) : pop n ≤ 64 ∧ S1 n < 18446744073709551616 ∧ S2 (S1 n) < 7378697629483820647 ∧ S3 (S2 (S1 n)) < 1157442765409226769 ∧
  (S3 (S2 (S1 n)) + S3 (S2 (S1 n)) / 256 + (S3 (S2 (S1 n)) + S3 (S2 (S1 n)) / 256) / 65536 + (S3 (S2 (S1 n)) + S3 (S2 (S1 n)) / 256 + (S3 (S2 (S1 n)) + S3 (S2 (S1 n)) / 256) / 65536) / 4294967296) % 128 = pop n := by
 have m1 : mask 4 1 32 = 6148914691236517205 := by decide
 have m2 : mask 16 3 16 = 3689348814741910323 := by decide
 have m3 : mask 256 15 8 = 1085102592571150095 := by decide
 have c1 := claim1 32 n (by exact hn)
 rw [m1] at c1
 have c2 := claim2 16 (S1 n) c1.2
 rw [m2] at c2
 have c3 := claim3 8 (S2 (S1 n)) c2.2
 rw [m3] at c3
 have c4 := Fld.sum (y := S3 (S2 (S1 n))) c3.2
 have ht : T 256 8 (S3 (S2 (S1 n))) = pop n := c3.1.trans (c2.1.trans c1.1)
 rw [ht] at c4
 refine ⟨c4.2.2, ?_, ?_, c4.1, c4.2.1⟩
 ·unfold S1
  have a1 := Nat.and_le_right (n := n / 2) (m := 6148914691236517205)
  have a2 := Nat.and_le_right (n := n) (m := 6148914691236517205)
  omega
 ·unfold S2
  have a1 := Nat.and_le_right (n := S1 n / 4) (m := 3689348814741910323)
  have a2 := Nat.and_le_right (n := S1 n) (m := 3689348814741910323)
  omega
theorem par_lt (n : Nat) : par n < 2 := Nat.mod_lt _ (by decide)
end PopM
namespace Bits
open Go.RowKit Base
theorem ofInt_i64 (a : Nat) (ha : a < 9223372036854775808) : (BitVec.ofInt 64 (a : Int)).toNat = a := by
 rw [BitVec.ofInt_natCast, BitVec.toNat_ofNat]; exact Nat.mod_eq_of_lt (by omega)
theorem i64_and_nat (a b : Nat) (ha : a < 9223372036854775808) (hb : b < 9223372036854775808) : bits .and .i64 (a : Int) (b : Int) = ((a &&& b : Nat) : Int) := by
 have hx : a &&& b < 2 ^ 63 := Nat.and_lt_two_pow _ (by omega)
 show IntKind.i64.wrap ((BitVec.ofInt 64 (a : Int) &&& BitVec.ofInt 64 (b : Int)).toNat : Int) = _
 rw [BitVec.toNat_and, ofInt_i64 a ha, ofInt_i64 b hb, IntKind.wrap_i64]
 omega
theorem i64_or_nat (a b : Nat) (ha : a < 9223372036854775808) (hb : b < 9223372036854775808) : bits .or .i64 (a : Int) (b : Int) = ((a ||| b : Nat) : Int) := by
 have hx : a ||| b < 2 ^ 63 := Nat.or_lt_two_pow (by omega) (by omega)
 show IntKind.i64.wrap ((BitVec.ofInt 64 (a : Int) ||| BitVec.ofInt 64 (b : Int)).toNat : Int) = _
 rw [BitVec.toNat_or, ofInt_i64 a ha, ofInt_i64 b hb, IntKind.wrap_i64]
 omega
theorem w1 (n : Nat) (hn : n < 18446744073709551616) (h : PopM.S1 n < 18446744073709551616) : IntKind.u64.wrap (bits .and .u64 ((n : Int) / 2) 6148914691236517205 + bits .and .u64 (n : Int) 6148914691236517205) = ((PopM.S1 n : Nat) : Int) := by
 have a := u64_and_nat (n / 2) 6148914691236517205 (by omega) (by omega)
 have b := u64_and_nat n 6148914691236517205 hn (by omega)
 rw [show ((n : Int) / 2) = ((n / 2 : Nat) : Int) by omega]
 rw [show (6148914691236517205 : Int) = ((6148914691236517205 : Nat) : Int) from rfl, a, b, IntKind.wrap_u64]
 unfold PopM.S1 at *
 omega
theorem w2 (n : Nat) (hn : n < 18446744073709551616) (h : PopM.S2 n < 7378697629483820647) : IntKind.u64.wrap (bits .and .u64 ((n : Int) / 4) 3689348814741910323 + bits .and .u64 (n : Int) 3689348814741910323) = ((PopM.S2 n : Nat) : Int) := by
 have a := u64_and_nat (n / 4) 3689348814741910323 (by omega) (by omega)
 have b := u64_and_nat n 3689348814741910323 hn (by omega)
 rw [show ((n : Int) / 4) = ((n / 4 : Nat) : Int) by omega]
 rw [show (3689348814741910323 : Int) = ((3689348814741910323 : Nat) : Int) from rfl, a, b, IntKind.wrap_u64]
 unfold PopM.S2 at *
 omega
theorem w3 (n : Nat) (hn : n < 7378697629483820647) : bits .and .u64 (IntKind.u64.wrap ((n : Int) / 16 + (n : Int))) 1085102592571150095 = ((PopM.S3 n : Nat) : Int) := by
 have a := u64_and_nat (n / 16 + n) 1085102592571150095 (by omega) (by omega)
 have e : IntKind.u64.wrap ((n : Int) / 16 + (n : Int)) = ((n / 16 + n : Nat) : Int) := by rw [IntKind.wrap_u64]; omega
 rw [e, show (1085102592571150095 : Int) = ((1085102592571150095 : Nat) : Int) from rfl, a]
 rfl
theorem w4 (n : Nat) (hn : n < 1157442765409226769) : bits .and .i64 (wrap64 (IntKind.u64.wrap (IntKind.u64.wrap (IntKind.u64.wrap ((n : Int) + (n : Int) / 256) + IntKind.u64.wrap ((n : Int) + (n : Int) / 256) / 65536) + IntKind.u64.wrap (IntKind.u64.wrap ((n : Int) + (n : Int) / 256) + IntKind.u64.wrap ((n : Int) + (n : Int) / 256) / 65536) / 4294967296))) 127 =
  (((n + n / 256 + (n + n / 256) / 65536 + (n + n / 256 + (n + n / 256) / 65536) / 4294967296) % 128 : Nat) : Int) := by
 have e1 : IntKind.u64.wrap ((n : Int) + (n : Int) / 256) = ((n + n / 256 : Nat) : Int) := by rw [IntKind.wrap_u64]; omega
 rw [e1]
 have hx : n + n / 256 < 1161964026368821562 := by omega
 generalize n + n / 256 = x at *
 have e2 : IntKind.u64.wrap ((x : Int) + (x : Int) / 65536) = ((x + x / 65536 : Nat) : Int) := by rw [IntKind.wrap_u64]; omega
 rw [e2]
 have hy : x + x / 65536 < 1161981756664180000 := by omega
 generalize x + x / 65536 = y at *
 have e3 : IntKind.u64.wrap ((y : Int) + (y : Int) / 4294967296) = ((y + y / 4294967296 : Nat) : Int) := by rw [IntKind.wrap_u64]; omega
 have hz : y + y / 4294967296 < 1161981757000000000 := by omega
 rw [e3]
 generalize y + y / 4294967296 = z at *
 have e4 : wrap64 (z : Int) = (z : Int) := by simp only [wrap64]; omega
 rw [e4, show (127 : Int) = ((127 : Nat) : Int) from rfl, i64_and_nat z 127 (by omega) (by omega), nat_mask7]
theorem ones_any (n : Nat) (hn : n < 18446744073709551616) (w : World) :
  Calls Tryz.prog 213 #[.int .u64 n] w fun e w' => e = .returned (.int .i64 (PopM.pop n : Nat)) ∧ w = w' := by
 obtain ⟨p0, p1, p2, p3, p4⟩ := PopM.pop_le hn
 have H1 := J (w1 n hn p1)
 have H2 := J (w2 (PopM.S1 n) p1 p2)
 have H3 := J (w3 (PopM.S2 (PopM.S1 n)) p2)
 have H4 := J (w4 (PopM.S3 (PopM.S2 (PopM.S1 n))) p3)
 have H5 := J p4
 clear p0 p1 p2 p3 p4
 go_enter Tryz.func213, Tryz.ntmps213
 go_wp2
 go_ret
 refine ⟨ret_int ?_, rfl⟩
 rw [H1.out, H2.out, H3.out, H4.out, H5.out]
theorem and1 (x : Nat) (h : x < 9223372036854775808) : bits .and .i64 (x : Int) 1 = ((x % 2 : Nat) : Int) := by
 have := i64_and_nat x 1 h (by omega)
 rw [nat_mask1] at this
 exact this
theorem parity_any (n : Nat) (hn : n < 9223372036854775808) (w : World) :
  Calls Tryz.prog 172 #[.int .i64 n] w fun e w' => e = .returned (.int .i64 (PopM.par n : Nat)) ∧ w = w' := by
 have hp := (PopM.pop_le (n := n) (by omega)).1
 have H := J (and1 (PopM.pop n) (by omega))
 go_enter Tryz.func172, Tryz.ntmps172
 go_wp2_with fail
 refine (ones_any n (by omega) _).mono ?_; rintro e w' ⟨rfl, rfl⟩
 go_wp2
 go_ret
 exact ⟨ret_int H.out, rfl⟩
theorem parity_q (n : Nat) (hn : n < 9223372036854775808) (w : World) :
  Calls Tryz.prog 172 #[.int .i64 n] w fun e w' => e = .returned (.int .i64 (PopM.par n : Nat)) ∧ w' = w :=
 (parity_any n hn w).mono fun _ _ h => ⟨h.1, h.2.symm⟩
end Bits
namespace Draw
open Go.RowKit Base Mem YtgipnbeipfhekaaGreatDoor.Src Blk Bits
def RegRet (p K : Nat) (w : World) (e : Ending) (w' : World) : Prop := ∃ V T : Nat, V ≤ 16 ∧ T < 2 ^ V ∧ e = .returned (.agg #[.int .i64 ((V : Nat) : Int), .int .i64 ((T : Nat) : Int)]) ∧ Src w' p K ∧ Beside p w w'
theorem EndR {p K V T : Nat} {w w8 : World} (hV : V ≤ 16) (hT : T < 2 ^ V) (hb : Beside p w w8) (hr : Blk w8 w.heap.size 25 #[.int .i64 0, .int .i64 0]) (hs : Src w8 p K) (hp : p < w.heap.size) :
  let w9 := (w8.setCell ⟨w.heap.size, 0, none⟩ (.int .i64 (V : Int))).setCell ⟨w.heap.size, 1, none⟩ (.int .i64 (T : Int))
  w9.cell? ⟨w.heap.size, 0, none⟩ = some (.int .i64 (V : Int)) ∧ w9.cell? ⟨w.heap.size, 1, none⟩ = some (.int .i64 (T : Int)) ∧ RegRet p K w (.returned (.agg #[.int .i64 ((V : Nat) : Int), .int .i64 ((T : Nat) : Int)])) w9 := by
 have S := (hr.setTo 0 (.int .i64 (V : Int)) (cs' := #[.int .i64 (V : Int), .int .i64 0]) rfl).setTo 1 (.int .i64 (T : Int)) (cs' := #[.int .i64 ((V : Nat) : Int), .int .i64 ((T : Nat) : Int)]) rfl
 refine ⟨S.at 0 rfl, S.at 1 rfl, V, T, hV, hT, rfl, ?_, ?_⟩
 ·exact Src.set' (Src.set' hs (a := ⟨w.heap.size, 0, none⟩) hp _) (a := ⟨w.heap.size, 1, none⟩) hp _
 ·exact (hb.set (a := ⟨w.heap.size, 0, none⟩) (Nat.le_refl _) _).set (a := ⟨w.heap.size, 1, none⟩) (Nat.le_refl _) _
theorem or1 {V T : Nat} (hV : V ≤ 16) (hT : T < 2 ^ V) : ∃ U : Nat, U < 2 ^ V ∧ bits .or .i64 (T : Int) (bits .and .i64 1 (wrap64 (wrap64 (2 ^ V) - 1))) = (U : Int) := by
 have hp : 2 ^ V ≤ 2 ^ 16 := Nat.pow_le_pow_right (by decide) hV
 have h0 := Nat.two_pow_pos V
 have e1 : wrap64 (wrap64 ((2 : Int) ^ V) - 1) = ((2 ^ V - 1 : Nat) : Int) := by
  rw [show (2 : Int) ^ V = ((2 ^ V : Nat) : Int) by simp]
  generalize 2 ^ V = N at *
  simp only [wrap64]; omega
 rw [e1, show (1 : Int) = ((1 : Nat) : Int) from rfl, i64_and_nat 1 (2 ^ V - 1) (by decide) (by omega)]
 have ha : 1 &&& (2 ^ V - 1) ≤ 1 := Nat.and_le_left
 rw [i64_or_nat T (1 &&& (2 ^ V - 1)) (by omega) (by omega)]
 refine ⟨_, Nat.or_lt_two_pow hT ?_, rfl⟩
 have hb : 1 &&& (2 ^ V - 1) ≤ 2 ^ V - 1 := Nat.and_le_right
 omega
theorem wrap_pow {V : Nat} (hV : V ≤ 16) : wrap64 ((2 : Int) ^ V) = ((2 ^ V : Nat) : Int) := by
 have hp : 2 ^ V ≤ 2 ^ 16 := Nat.pow_le_pow_right (by decide) hV
 rw [show (2 : Int) ^ V = ((2 ^ V : Nat) : Int) by simp]
 generalize 2 ^ V = N at *
 simp only [wrap64]; omega
structure Mid (p K r V T : Nat) (w w' : World) : Prop where
 beside : Beside p w w'
 res : Blk w' w.heap.size 25 #[.int .i64 0, .int .i64 0]
 reg : Blk w' r 25 #[.int .i64 ((V : Nat) : Int), .int .i64 ((T : Nat) : Int)]
 src : Src w' p K
theorem Mid.go {p K L r V T : Nat} {w w1 w2 : World} (h : Mid p K r V T w w1) (hs : Src w2 p L) (g : w1.grownBy w2 (some p)) (hp : p < w.heap.size) (hr : w.heap.size < r) : Mid p L r V T w w2 :=
 ⟨h.beside.trans (Beside.grown g), h.res.src g (by omega), h.reg.src g (by omega), hs⟩
theorem Mid.more {p K L r V T : Nat} {w w1 : World} (h : Mid p K r V T w w1) (hL : K ≤ L) : Mid p L r V T w w1 := ⟨h.beside, h.res, h.reg, h.src.more hL⟩
theorem Mid.setV {p K r V T U : Nat} {w w1 : World} (h : Mid p K r V T w w1) (hp : p < w.heap.size) (hr : w.heap.size < r) : Mid p K r U T w (w1.setCell ⟨r, 0, none⟩ (.int .i64 (U : Int))) :=
 ⟨h.beside.set (a := ⟨r, 0, none⟩) (Nat.le_of_lt hr) _, h.res.other (a := ⟨r, 0, none⟩) _ (by show r ≠ _; omega), h.reg.setTo 0 _ rfl, Src.set' h.src (a := ⟨r, 0, none⟩) (by show p < r; omega) _⟩
theorem Mid.setT {p K r V T U : Nat} {w w1 : World} (h : Mid p K r V T w w1) (hp : p < w.heap.size) (hr : w.heap.size < r) : Mid p K r V U w (w1.setCell ⟨r, 1, none⟩ (.int .i64 (U : Int))) :=
 ⟨h.beside.set (a := ⟨r, 1, none⟩) (Nat.le_of_lt hr) _, h.res.other (a := ⟨r, 1, none⟩) _ (by show r ≠ _; omega), h.reg.setTo 1 _ rfl, Src.set' h.src (a := ⟨r, 1, none⟩) (by show p < r; omega) _⟩
theorem Mid.alloc {p K r V T : Nat} {w w1 : World} (h : Mid p K r V T w w1) (o : Obj) : Mid p K r V T w (w1.alloc o) := ⟨h.beside.alloc o, h.res.alloc o, h.reg.alloc o, h.src.below ((Below.refl _ _).alloc (Nat.le_refl _) _)⟩
theorem Mid.fin {p K r V T : Nat} {w w1 : World} (h : Mid p K r V T w w1) (hp : p < w.heap.size) (hV : V ≤ 16) (hT : T < 2 ^ V) :
  let w9 := (w1.setCell ⟨w.heap.size, 0, none⟩ (.int .i64 (V : Int))).setCell ⟨w.heap.size, 1, none⟩ (.int .i64 (T : Int))
  w9.cell? ⟨w.heap.size, 0, none⟩ = some (.int .i64 (V : Int)) ∧ w9.cell? ⟨w.heap.size, 1, none⟩ = some (.int .i64 (T : Int)) ∧ RegRet p K w (.returned (.agg #[.int .i64 ((V : Nat) : Int), .int .i64 ((T : Nat) : Int)])) w9 := EndR hV hT h.beside h.res h.src hp
theorem l02DrawOk_any (p K : Nat) (w : World) (h : Src w p K) (hK : K ≤ 100000000000) :
  Calls Tryz.prog 64 #[.pointer (some ⟨p, 0, none⟩)] w (RegRet p (K + 12) w) := by
 have hp := h.lt
 obtain ⟨W0, hW0⟩ : ∃ W0, W0 = w.alloc (.cells #[.int .i64 0, .int .i64 0] 25) := ⟨_, rfl⟩
 have B0 : Beside p w W0 := by rw [hW0]; exact (Beside.refl p w).alloc _
 have R0 : Blk W0 w.heap.size 25 #[.int .i64 0, .int .i64 0] := by rw [hW0]; exact Blk.new _ _ _
 have S0 : Src W0 p K := by rw [hW0]; exact h.below ((Below.refl _ _).alloc (Nat.le_refl _) _)
 have HW := J hW0
 have HB0 := J B0
 have HR0 := J R0
 have HP := J (pick_any p K 9 W0 S0 (by omega))
 clear hW0 B0 R0 S0 h
 go_enter Tryz.func64, Tryz.ntmps64
 go_wp2_with fail
 rw [← HW.out]
 refine HP.out.mono ?_
 rintro e w1 ⟨r1, rfl, hr1, s1, g1⟩
 have hV1 : r1 ≤ 16 := by omega
 have R1 := HR0.out.src g1 (by omega)
 have hz1 := R1.lt
 obtain ⟨W1, hW1⟩ : ∃ W1, W1 = w1.alloc (.cells #[.int .i64 (r1 : Int), .int .i64 0] 25) := ⟨_, rfl⟩
 have M1 : Mid p (K + 2) w1.heap.size r1 0 w W1 := by
  rw [hW1]
  exact ⟨(HB0.out.trans (Beside.grown g1)).alloc _, R1.alloc _, Blk.new _ _ _, s1.below ((Below.refl _ _).alloc (Nat.le_refl _) _)⟩
 have hrr : w.heap.size < w1.heap.size := hz1
 have HW1 := J hW1
 have HM1 := J M1
 have HP2 := J (one_any p (K + 2) 14 W1 M1.src (by omega))
 obtain ⟨r, hr⟩ : ∃ r, r = w1.heap.size := ⟨_, rfl⟩
 rw [← hr] at HM1 hrr
 have HRr := J hr
 clear s1 g1 hW1 M1 R1 HB0 HR0 HW hr1 hz1 hr
 go_wp2_with fail
 rw [← HRr.out, ← HW1.out]
 refine HP2.out.mono ?_
 rintro e w2 ⟨r2, rfl, s2, g2⟩
 have HM2 := J (HM1.out.go s2 g2 hp hrr)
 clear s2 g2 HM1 HW1 HRr HP2
 rcases r2 with _ | _
 ·obtain ⟨V, hVV⟩ : ∃ V, V = r1 := ⟨_, rfl⟩
  rw [← hVV] at HM2 hV1
  have hV : V ≤ 16 := hV1
  obtain ⟨w4, hw4⟩ : ∃ w4, w4 = w2 := ⟨_, rfl⟩
  rw [← hw4] at HM2
  have HM4 := J (HM2.out.more (show K + 4 ≤ K + 6 by omega))
  have HW4 := J hw4
  clear HM2 hVV hw4
  have hpw := J (wrap_pow hV)
  have n0 := HM4.out.reg.at 0 (v := .int .i64 (V : Int)) rfl
  rw [HW4.out] at n0
  have HP4 := J (pick_any p (K + 6) (wrap64 (2 ^ V)) w4 HM4.out.src (by omega))
  go_wp2_with fail
  rw [← HW4.out]
  refine HP4.out.mono ?_
  rintro e w5 ⟨T, rfl, hT, s5, g5⟩
  have hT2 : T < 2 ^ V := by
   have := Nat.two_pow_pos V
   rw [hpw.out] at hT
   omega
  have M5 := HM4.out.go s5 g5 hp hrr
  have c1 := M5.reg.at 1 (v := .int .i64 0) rfl
  have f1 := M5.reg.frz 1
  obtain ⟨w6, hw6⟩ : ∃ w6, w6 = w5.setCell ⟨r, 1, none⟩ (.int .i64 (T : Int)) := ⟨_, rfl⟩
  have M6 : Mid p (K + 8) r V T w w6 := by rw [hw6]; exact M5.setT hp hrr
  have HW6 := J hw6
  have HM6 := J M6
  have HP6 := J (one_any p (K + 8) 2 w6 M6.src (by omega))
  clear hw6 M5 M6 s5 g5 hT n0 HM4 HW4 HP4 hpw
  go_wp2_with fail
  rw [← HW6.out]
  refine HP6.out.mono ?_
  rintro e w7 ⟨r7, rfl, s7, g7⟩
  have M7 := (HM6.out.go s7 g7 hp hrr).more (show K + 8 + 2 ≤ K + 12 by omega)
  have c0 := M7.reg.at 0 (v := .int .i64 (V : Int)) rfl
  have c1 := M7.reg.at 1 (v := .int .i64 (T : Int)) rfl
  have e0 := M7.res.at 0 (v := .int .i64 0) rfl
  have e1 := M7.res.at 1 (v := .int .i64 0) rfl
  have f0 := M7.res.frz 0
  have f1 := M7.res.frz 1
  have f2 := M7.reg.frz 1
  have hne : r ≠ w.heap.size := by omega
  have hne' : w.heap.size ≠ r := by omega
  obtain ⟨U, hU, hor⟩ := or1 hV hT2
  have HE := J (M7.fin hp hV hT2)
  have HE2 := J ((M7.setT (U := U) hp hrr).fin hp hV hU)
  clear M7 s7 g7 HM6 HW6 HP6
  cases r7 with
  | false =>
   go_wp2
   obtain ⟨q0, q1, q3⟩ := HE.out
   exact bodyPost_ret (v := .agg #[.int .i64 ((V : Nat) : Int), .int .i64 ((T : Nat) : Int)]) (by simp [results, Tryz.results64, go_sem, q0, q1]) rfl q3
  | true =>
   go_wp2
   obtain ⟨q0, q1, q3⟩ := HE2.out
   exact bodyPost_ret (v := .agg #[.int .i64 ((V : Nat) : Int), .int .i64 ((U : Nat) : Int)]) (by simp [results, Tryz.results64, go_sem, q0, q1]) rfl q3
 ·obtain ⟨W2, hW2⟩ : ∃ W2, W2 = w2.alloc (.cells #[.int .i64 14, .int .i64 15, .int .i64 16] 2) := ⟨_, rfl⟩
  have hz2 := HM2.out.res.lt
  have M2' : Mid p (K + 4) r r1 0 w W2 := by rw [hW2]; exact HM2.out.alloc _
  have hcs : ∀ i, i < [14, 15, 16].length → W2.cell? ⟨w2.heap.size, i, none⟩ = some (.int .i64 (([14, 15, 16] : List Int).getD i 0)) := by
   rw [hW2]; exact lits_cell (xs := [14, 15, 16]) (Blk.new w2 2 _)
  have HP3 := J (among_any p (K + 4) w2.heap.size 3 [14, 15, 16] W2 M2'.src (by omega) (by omega) (by rw [hW2]; simp) (by decide) (by decide) hcs)
  have HW2 := J hW2
  have HM2' := J M2'
  clear hW2 M2' hcs HM2
  go_wp2_with fail
  rw [← HW2.out]
  refine HP3.out.mono ?_
  rintro e w3 ⟨r3, rfl, hr3, s3, g3⟩
  have hv : ∀ r, r < 3 → 0 ≤ ([14, 15, 16] : List Int).getD r 0 ∧ ([14, 15, 16] : List Int).getD r 0 ≤ 16 := by decide
  obtain ⟨hv1, hv2⟩ := hv r3 hr3
  generalize ([14, 15, 16] : List Int).getD r3 0 = v at *
  obtain ⟨V, rfl⟩ := Int.eq_ofNat_of_zero_le hv1
  have hV : V ≤ 16 := by omega
  have M3 := HM2'.out.go s3 g3 hp hrr
  have c0 := M3.reg.at 0 (v := .int .i64 (r1 : Int)) rfl
  have f0 := M3.reg.frz 0
  obtain ⟨w4, hw4⟩ : ∃ w4, w4 = w3.setCell ⟨r, 0, none⟩ (.int .i64 (V : Int)) := ⟨_, rfl⟩
  have HM4 := J (show Mid p (K + 6) r V 0 w w4 by rw [hw4]; exact M3.setV hp hrr)
  have HW4 := J hw4
  clear M3 hw4 s3 g3 hr3 hv hv1 hv2 HM2' HW2 HP3 hz2
  have hpw := J (wrap_pow hV)
  have n0 := HM4.out.reg.at 0 (v := .int .i64 (V : Int)) rfl
  rw [HW4.out] at n0
  have HP4 := J (pick_any p (K + 6) (wrap64 (2 ^ V)) w4 HM4.out.src (by omega))
  go_wp2_with fail
  rw [← HW4.out]
  refine HP4.out.mono ?_
  rintro e w5 ⟨T, rfl, hT, s5, g5⟩
  have hT2 : T < 2 ^ V := by
   have := Nat.two_pow_pos V
   rw [hpw.out] at hT
   omega
  have M5 := HM4.out.go s5 g5 hp hrr
  have c1 := M5.reg.at 1 (v := .int .i64 0) rfl
  have f1 := M5.reg.frz 1
  obtain ⟨w6, hw6⟩ : ∃ w6, w6 = w5.setCell ⟨r, 1, none⟩ (.int .i64 (T : Int)) := ⟨_, rfl⟩
  have M6 : Mid p (K + 8) r V T w w6 := by rw [hw6]; exact M5.setT hp hrr
  have HW6 := J hw6
  have HM6 := J M6
  have HP6 := J (one_any p (K + 8) 2 w6 M6.src (by omega))
  clear hw6 M5 M6 s5 g5 hT n0 HM4 HW4 HP4 hpw
  go_wp2_with fail
  rw [← HW6.out]
  refine HP6.out.mono ?_
  rintro e w7 ⟨r7, rfl, s7, g7⟩
  have M7 := (HM6.out.go s7 g7 hp hrr).more (show K + 8 + 2 ≤ K + 12 by omega)
  have c0 := M7.reg.at 0 (v := .int .i64 (V : Int)) rfl
  have c1 := M7.reg.at 1 (v := .int .i64 (T : Int)) rfl
  have e0 := M7.res.at 0 (v := .int .i64 0) rfl
  have e1 := M7.res.at 1 (v := .int .i64 0) rfl
  have f0 := M7.res.frz 0
  have f1 := M7.res.frz 1
  have f2 := M7.reg.frz 1
  have hne : r ≠ w.heap.size := by omega
  have hne' : w.heap.size ≠ r := by omega
  obtain ⟨U, hU, hor⟩ := or1 hV hT2
  have HE := J (M7.fin hp hV hT2)
  have HE2 := J ((M7.setT (U := U) hp hrr).fin hp hV hU)
  clear M7 s7 g7 HM6 HW6 HP6
  cases r7 with
  | false =>
   go_wp2
   obtain ⟨q0, q1, q3⟩ := HE.out
   exact bodyPost_ret (v := .agg #[.int .i64 ((V : Nat) : Int), .int .i64 ((T : Nat) : Int)]) (by simp [results, Tryz.results64, go_sem, q0, q1]) rfl q3
  | true =>
   go_wp2
   obtain ⟨q0, q1, q3⟩ := HE2.out
   exact bodyPost_ret (v := .agg #[.int .i64 ((V : Nat) : Int), .int .i64 ((U : Nat) : Int)]) (by simp [results, Tryz.results64, go_sem, q0, q1]) rfl q3
end Draw
namespace Bld
open Go.RowKit Base Mem
theorem sizeBuilder : (Tryz.prog.info? 93).map (·.size) = some 2 := by kernel_rfl
theorem liesBuilder : liesAt Tryz.prog Tryz.prog.depth 93 (2 / Tryz.prog.cellsOf 93) 0 93 1 = true := by kernel_rfl
theorem infoByte : (Tryz.prog.info? 5).map (fun i => (i.zero, i.size, i.bytes)) = some (some (.int .u8 0), 1, 1) := by kernel_rfl
theorem cellsByte : Tryz.prog.cellsOf 5 = 1 := by kernel_rfl
theorem copyCheck_used (b : Nat) (w : World) (h0 : w.cell? ⟨b, 0, none⟩ = some (.pointer (some ⟨b, 0, none⟩))) :
  Calls Tryz.prog 90 #[.pointer (some ⟨b, 0, none⟩)] w fun e w' => e = .returned (.tuple #[]) ∧ w' = w := by
 obtain ⟨j, hj, _⟩ := Option.map_eq_some_iff.1 sizeBuilder
 go_enter Tryz.func90, Tryz.ntmps90
 go_wp2
 rw [Lib.run_neq_ptr_same w _ Tryz.underlying91 hj]
 go_wp2
 go_end0
 exact ⟨rfl, rfl⟩
theorem copyCheck_fresh (b : Nat) (w : World) (h0 : w.cell? ⟨b, 0, none⟩ = some (.pointer none)) (hsh : w.shape? b = some (93, 2)) (hfz : w.frozen? ⟨b, 0, none⟩ = false) :
  Calls Tryz.prog 90 #[.pointer (some ⟨b, 0, none⟩)] w fun e w' => e = .returned (.tuple #[]) ∧ w' = w.setCell ⟨b, 0, none⟩ (.pointer (some ⟨b, 0, none⟩)) := by
 obtain ⟨j, hj, hjs⟩ := Option.map_eq_some_iff.1 sizeBuilder
 go_enter Tryz.func90, Tryz.ntmps90
 go_wp2
 rw [Lib.run_to_unsafe w ⟨b, 0, none⟩ Tryz.underlying91 Tryz.underlying190 hj (by rw [hjs]; decide) hsh (Nat.zero_lt_succ 1)]
 simp only [Result.andThen]
 rw [Oper.upon_value]
 go_wp2
 rw [run_callFunc_extern Tryz.func145 (by kernel_rfl) (by kernel_rfl) (by kernel_rfl) (e := Extern.AbiNoEscape.same) (by kernel_rfl)]
 rw [Lib.run_noEscape]
 simp only [Result.andThen]
 rw [Oper.upon_value]
 go_wp2
 rw [Lib.run_from_unsafe w ⟨b, 0, none⟩ Tryz.underlying190 Tryz.underlying91 hj hsh liesBuilder]
 simp only [Result.andThen]
 rw [Oper.upon_value]
 go_wp2
 go_end0
 exact ⟨rfl, rfl⟩
def IsB (B b : Nat) (bs : List Value) (w : World) : Prop := Lib.IsBuilder 93 5 B b bs w
theorem copyCheck_any (B b : Nat) (bs : List Value) (w : World) (h : IsB B b bs w) :
  Calls Tryz.prog 90 #[.pointer (some ⟨b, 0, none⟩)] w fun e w' => e = .returned (.tuple #[]) ∧ (Lib.BuilderAt 93 5 B b (.pointer (some ⟨b, 0, none⟩)) bs w' ∧ Below B w w') := by
 rcases h with h | h
 ·refine (copyCheck_fresh b w h.cell0 h.shape h.frozen0).mono ?_
  rintro e w' ⟨rfl, rfl⟩
  exact ⟨rfl, h.used _, (Below.refl B w).setCell (p := ⟨b, 0, none⟩) h.1 _⟩
 ·refine (copyCheck_used b w h.cell0).mono ?_
  rintro e w' ⟨rfl, rfl⟩
  exact ⟨rfl, h, Below.refl B _⟩
def WroteB (B b : Nat) (bs : List Value) (w : World) (e : Ending) (w' : World) : Prop := e = .returned .nilIface ∧ IsB B b bs w' ∧ Below B w w'
theorem writeByte_any (B b : Nat) (bs : List Value) (c : Int) (w : World) (h : IsB B b bs w) (hlen : bs.length + 1 ≤ 1099511627776) (hBw : B ≤ w.heap.size) :
  Calls Tryz.prog 119 #[.pointer (some ⟨b, 0, none⟩), .int .u8 c] w (WroteB B b (bs ++ [.int .u8 c]) w) := by
 obtain ⟨i0, hi, hz0, hz1, hz2⟩ := info_parts infoByte
 go_enter Tryz.func119, Tryz.ntmps119
 go_wp2_with fail
 refine (copyCheck_any B b bs _ h).mono ?_
 rintro e w1 ⟨rfl, h1, hb1⟩
 obtain ⟨hB, v, hbk, hown, hne⟩ := h1
 have c0 : w1.cell? ⟨b, 0, none⟩ = some (.pointer (some ⟨b, 0, none⟩)) := by rw [Lib.cell_of_heap hbk]; rfl
 have c1 : w1.cell? ⟨b, 1, none⟩ = some v := by rw [Lib.cell_of_heap hbk]; rfl
 go_wp2_with (at_builtin; refine wpList_append_own _ rfl _ _ 22 rfl B 5 i0 (.int .u8 0) 1 1 Tryz.underlying22 hi hz0 hz1 hz2 rfl (by decide) _ _ _ rfl (hown.alloc _) ⟨w1.heap.size, 0, none⟩ 1 1 [.int .u8 c] rfl rfl ?c1 ?c2 ?c3 ?c4 ?c5 ?_)
 case c1 =>
  intro j u hj
  match j, hj with
  | 0, hj => simp at hj; subst hj; simp [Addr.add]
 case c2 => intro u hu; simp at hu; subst hu; rfl
 case c3 => unfold maxLen; omega
 case c4 => omega
 case c5 => have := hb1.size; simp; omega
 intro v' w2 hown' hgrow _
 have hlt : b < w1.heap.size := by
  rcases Nat.lt_or_ge b w1.heap.size with h' | h'
  ·exact h'
  ·simp [Array.getElem?_eq_none h'] at hbk
 have hb2 : w2.heap[b]? = some (.cells #[.pointer (some ⟨b, 0, none⟩), v] 93 (0, 0)) := by
  rw [hgrow.block b (by simp; omega) (fun e => hne e.symm), Lib.alloc_old w1 _ b hlt]
  exact hbk
 have d0 : w2.cell? ⟨b, 0, none⟩ = some (.pointer (some ⟨b, 0, none⟩)) := by rw [Lib.cell_of_heap hb2]; rfl
 have d1 : w2.cell? ⟨b, 1, none⟩ = some v := by rw [Lib.cell_of_heap hb2]; rfl
 have f1 : w2.frozen? ⟨b, 1, none⟩ = false := Lib.frozen_of_heap hb2 1
 obtain ⟨g, cap, rfl⟩ : ∃ g cap, v' = .slice (some ⟨g, 0, none⟩) (bs.length + 1) cap := by
  rcases hown'.2 with ⟨_, h0⟩ | ⟨g, cap, cur, hv, _⟩
  ·omega
  ·exact ⟨g, cap, hv⟩
 go_wp2
 go_ret
 refine ⟨rfl, .inr ?_, ?_⟩
 ·exact Lib.BuilderAt.put (T := 93) (e := 5) hB hb2 (bs' := bs ++ [.int .u8 c]) (by simpa using hown') (by decide)
 ·exact ((hb1.alloc (by have := hb1.size; omega) _).grown hgrow (by have := hb1.size; simp; omega) (fun k hk => (hown.lt k hk).1)).setCell (p := ⟨b, 1, none⟩) hB _
theorem string_some (B b : Nat) (l : List UInt8) (w : World) (h : IsB B b (Lib.byteCells l) w) (h0 : l ≠ []) :
  Calls Tryz.prog 48 #[.pointer (some ⟨b, 0, none⟩)] w fun e w' => e = .returned (.string ⟨l.toArray⟩) ∧ Below B w w' := by
 obtain ⟨p, hB, v, hbk, hown, hne⟩ : ∃ p, Lib.BuilderAt 93 5 B b p (Lib.byteCells l) w := by
  rcases h with h | h
  ·exact ⟨_, h⟩
  ·exact ⟨_, h⟩
 have hl0 : l.length ≠ 0 := by simpa using h0
 rw [Lib.byteCells_length] at hown
 obtain ⟨g, cap, cur, rfl, hbg, hg, hnc, hcm, hcs, htake⟩ : ∃ g cap cur, v = .slice (some ⟨g, 0, none⟩) l.length cap ∧ B ≤ g ∧ w.heap[g]? = some (.cells cur 5 (0, 0)) ∧ l.length ≤ cap ∧ cap ≤ maxLen ∧ cur.size = cap * 1 ∧ cur.toList.take (l.length * 1) = Lib.byteCells l := by
  rcases hown.2 with ⟨_, hz⟩ | ⟨g, cap, cur, hv, r⟩
  ·exact absurd hz hl0
  ·exact ⟨g, cap, cur, hv, r⟩
 have c1 : w.drew.cell? ⟨b, 1, none⟩ = some (.slice (some ⟨g, 0, none⟩) l.length cap) := by
  have : w.drew.heap[b]? = some (.cells #[p, .slice (some ⟨g, 0, none⟩) l.length cap] 93 (0, 0)) := hbk
  rw [Lib.cell_of_heap this]; rfl
 have hSD : (Builtin.unsafeSliceData_ #[22] 141 #[.slice (some ⟨g, 0, none⟩) l.length cap]).run Tryz.prog w.drew = .ok (.pointer (some ⟨g, 0, none⟩)) w.drew :=
  Lib.run_unsafeSliceData_row _ _ _ _ _ _ (by omega)
 have hUS : (Builtin.unsafeString_ #[141, 3] 9 #[.pointer (some ⟨g, 0, none⟩), .int .i64 l.length]).run Tryz.prog w.drew = .ok (.string ⟨l.toArray⟩) (w.drew.freeze ⟨g, 0, none⟩ l.length) := by
  refine Lib.run_unsafeString_row w.drew 141 3 9 5 Tryz.underlying141 cellsByte g cur.size (by have hg' : w.drew.heap[g]? = some (.cells cur 5 (0, 0)) := hg; simp [World.shape?, hg']) l h0 (by omega) (by unfold maxLen at hcm; omega) ?_
  intro j x hx
  have := hown.cells (g := g) rfl j (.int .u8 x.toNat) (by simp [Lib.byteCells, hx])
  exact this
 have mixed : Tryz.prog.follows .mixedOrders = true := by kernel_rfl
 go_enter Tryz.func48, Tryz.ntmps48
 go_wp2
 go_region_o
 all_goals (go_wp2; go_ret; exact ⟨rfl, Lib.below_freeze (Below.drew (Below.refl B w)) (p := ⟨g, 0, none⟩) hbg _⟩)
end Bld
namespace Reg
open Go.RowKit Base Bits
theorem pw_bd {W : Nat} (h : W ≤ 16) : 1 ≤ (2 : Int) ^ W ∧ (2 : Int) ^ W ≤ 65536 := by
 have h1 : 2 ^ W ≤ 2 ^ 16 := Nat.pow_le_pow_right (by decide) h
 have h2 : 0 < 2 ^ W := Nat.two_pow_pos W
 have e : ((2 ^ W : Nat) : Int) = (2 : Int) ^ W := by simp
 rw [← e]; omega
def stB (W : Nat) (x : Int) : Bool := inR x 0 ((2 : Int) ^ W - 1)
def regB (W T : Int) : Bool := inR W 0 16 && stB W.toNat T
theorem regB_true {W T : Int} (h : regB W T = true) : 0 ≤ W ∧ W ≤ 16 ∧ 0 ≤ T ∧ T < (2 : Int) ^ W.toNat := by
 simp only [regB, Bool.and_eq_true, stB] at h
 have h1 := inR_true h.1
 have h2 := inR_true h.2
 omega
def bothR (W T x : Int) : Bool := regB W T && stB W.toNat x
theorem bothR_true {W T x : Int} (h : bothR W T x = true) : 0 ≤ W ∧ W ≤ 16 ∧ 0 ≤ T ∧ T < (2 : Int) ^ W.toNat ∧ 0 ≤ x ∧ x < (2 : Int) ^ W.toNat := by
 simp only [bothR, Bool.and_eq_true, stB] at h
 have h1 := regB_true h.1
 have h2 := inR_true h.2
 omega
def nextR (W T x : Nat) : Nat := if W = 0 then 0 else x / 2 ||| PopM.par (x &&& T) * 2 ^ (W - 1)
theorem nextR_lt {W T x : Nat} (hx : x < 2 ^ W) : nextR W T x < 2 ^ W := by
 unfold nextR
 by_cases h : W = 0
 ·rw [if_pos h]; exact Nat.two_pow_pos W
 ·rw [if_neg h]
  obtain ⟨V, rfl⟩ : ∃ V, W = V + 1 := ⟨W - 1, by omega⟩
  have hp := PopM.par_lt (x &&& T)
  rw [Nat.pow_succ] at hx
  have h1 : PopM.par (x &&& T) * 2 ^ (V + 1 - 1) < 2 ^ (V + 1) := by
   rw [Nat.add_sub_cancel, Nat.pow_succ]
   have : PopM.par (x &&& T) * 2 ^ V ≤ 1 * 2 ^ V := Nat.mul_le_mul_right _ (by omega)
   have := Nat.two_pow_pos V
   omega
  exact Nat.or_lt_two_pow (by rw [Nat.pow_succ]; omega) h1
theorem nextR_int {W T x : Nat} (hW : 1 ≤ W) (hW2 : W ≤ 16) (hx : x < 2 ^ W) : bits .or .i64 ((x : Int) / 2) (wrap64 ((PopM.par (x &&& T) : Int) * (2 : Int) ^ (W - 1))) = ((nextR W T x : Nat) : Int) := by
 have hp := PopM.par_lt (x &&& T)
 have hW3 : 2 ^ W ≤ 65536 := Nat.pow_le_pow_right (by decide) hW2
 have h1 : 2 ^ (W - 1) ≤ 65536 := Nat.le_trans (Nat.pow_le_pow_right (by decide) (by omega)) hW3
 have h2 : PopM.par (x &&& T) * 2 ^ (W - 1) ≤ 1 * 65536 := Nat.mul_le_mul (by omega) h1
 have e : (PopM.par (x &&& T) : Int) * (2 : Int) ^ (W - 1) = ((PopM.par (x &&& T) * 2 ^ (W - 1) : Nat) : Int) := by simp
 have e2 : wrap64 (((PopM.par (x &&& T) * 2 ^ (W - 1) : Nat) : Int)) = ((PopM.par (x &&& T) * 2 ^ (W - 1) : Nat) : Int) := by simp only [wrap64]; omega
 rw [e, e2, show ((x : Int) / 2) = ((x / 2 : Nat) : Int) by omega, i64_or_nat _ _ (by omega) (by omega)]
 unfold nextR
 rw [if_neg (by omega)]
theorem ret_two {k : IntKind} {a b c d : Int} (h : a = b) (h' : c = d) : Ending.returned (.tuple #[.int k a, .int k c]) = .returned (.tuple #[.int k b, .int k d]) := by rw [h, h']
noncomputable def preR (W T x : Int) : Int := if bothR W T x = true then CycM.preOf (nextR W.toNat T.toNat) x.toNat else 0
noncomputable def perR (W T x : Int) : Int := if bothR W T x = true then CycM.perOf (nextR W.toNat T.toNat) x.toNat else 0
theorem preR_eq {m f x : Int} (h : bothR m f x = true) {j n : Nat} (hc : CycM.IsCyc (nextR m.toNat f.toNat) x.toNat j n) : preR m f x = j := by
 rw [preR, if_pos h, CycM.preOf_of hc]
theorem perR_eq {m f x : Int} (h : bothR m f x = true) {j n : Nat} (hc : CycM.IsCyc (nextR m.toNat f.toNat) x.toNat j n) : perR m f x = (n : Int) - j := by
 rw [perR, if_pos h, CycM.perOf_of hc]
end Reg
namespace Reg
open Go.RowKit Base Bits
theorem validReg_any (W T : Int) (w : World) :
  Calls Tryz.prog 116 #[.agg #[.int .i64 W, .int .i64 T]] w fun e w' => e = .returned (.bool (regB W T)) ∧ Below w.heap.size w w' := by
 cases hm : inR W 0 16
 ·go_enter Tryz.func116, Tryz.ntmps116
  go_wp2
  go_quiet ((go_at_call 31; exact Calls.quiet_of_same (inRange_qb hm _)))
  go_wp2
  go_ret
  exact ⟨ret_bool (by simp [regB, hm]), below_drewN ((Below.refl _ _).alloc (Nat.le_refl _) _) _⟩
 ·obtain ⟨b1, b2⟩ := inR_true hm
  obtain ⟨V, rfl⟩ := Int.eq_ofNat_of_zero_le b1
  obtain ⟨p1, p2⟩ := pw_bd (W := V) (by omega)
  cases hf : stB V T
  all_goals
   have hg := J hf
   unfold stB at hf
   go_enter Tryz.func116, Tryz.ntmps116
   go_wp2
   go_quiet ((go_at_call 31; first | (with_reducible exact Calls.quiet_of_same (inRange_qb hm _)) | (with_reducible exact Calls.quiet_of_same (inRange_qb hf _))))
   go_wp2
   go_ret
   exact ⟨ret_bool (by simp [regB, hm, hg.out]), below_drewN ((Below.refl _ _).alloc (Nat.le_refl _) _) _⟩
theorem isRegState_any (W T x : Int) (w : World) :
  Calls Tryz.prog 66 #[.agg #[.int .i64 W, .int .i64 T], .int .i64 x] w fun e w' => e = .returned (.bool (bothR W T x)) ∧ Below w.heap.size w w' := by
 cases hB : regB W T
 ·go_enter Tryz.func66, Tryz.ntmps66
  go_wp2_with (go_at_call 116; refine (validReg_any W T _).mono ?_; rintro e w1 ⟨rfl, hb1⟩)
  go_ret
  exact ⟨ret_bool (by simp [bothR, hB]), Base.Below.boxed hb1⟩
 ·obtain ⟨g1, g2, _⟩ := regB_true hB
  obtain ⟨V, rfl⟩ := Int.eq_ofNat_of_zero_le g1
  obtain ⟨p1, p2⟩ := pw_bd (W := V) (by omega)
  go_enter Tryz.func66, Tryz.ntmps66
  go_wp2_with (first | (go_at_call 116; refine (validReg_any (V : Int) T _).mono ?_; rintro e w1 ⟨rfl, hb1⟩; have d0 : w1.cell? ⟨w.heap.size, 0, none⟩ = some (.int .i64 (V : Int)) := box_cells hb1 0) | (go_at_call 31; refine (inRange_any _ _ _ _).mono ?_; rintro e w' ⟨rfl, rfl⟩))
  go_ret
  exact ⟨ret_bool (by simp [bothR, hB, stB]), Base.Below.boxed hb1⟩
theorem nextR_int' {W T x : Nat} (hW : 1 ≤ W) (hW2 : W ≤ 16) (hx : x < 2 ^ W) : bits .or .i64 ((x : Int) / 2) (wrap64 ((PopM.par (T &&& x) : Int) * (2 : Int) ^ (W - 1))) = ((nextR W T x : Nat) : Int) := by
 rw [Nat.and_comm]; exact nextR_int hW hW2 hx
def StepRetI (W T x : Nat) (w : World) (e : Ending) (w' : World) : Prop := e = .returned (.tuple #[.int .i64 (nextR W T x : Nat), .int .i64 (x % 2 : Nat)]) ∧ Below w.heap.size w w'
theorem implStep_any (W T x : Nat) (w : World) (hW2 : W ≤ 16) (hT : T < 2 ^ W) (hx : x < 2 ^ W) :
  Calls Tryz.prog 118 #[.agg #[.int .i64 W, .int .i64 T], .int .i64 x] w (StepRetI W T x w) := by
 by_cases hW : W = 0
 ·subst hW
  obtain rfl : x = 0 := by simpa using hx
  go_enter Tryz.func118, Tryz.ntmps118
  go_wp2
  go_ret2
  exact ⟨rfl, (Below.refl _ _).alloc (Nat.le_refl _) _⟩
 ·have hp : 2 ^ W ≤ 65536 := Nat.pow_le_pow_right (by decide) hW2
  have HA := J (i64_and_nat T x (by omega) (by omega))
  have HB := J (nextR_int' (T := T) (by omega) hW2 hx)
  have HC := J (and1 x (by omega))
  have hand : T &&& x ≤ x := Nat.and_le_right
  have hW0 : ((W : Int) == 0) = false := by simp; omega
  go_enter Tryz.func118, Tryz.ntmps118
  go_wp2
  go_quiet ((go_at_call 172; rw [HA.out]; exact Calls.quiet_of_same (parity_q (T &&& x) (by omega) _)))
  go_wp2
  go_ret2
  exact ⟨ret_two HB.out HC.out, below_drewN ((Below.refl _ _).alloc (Nat.le_refl _) _) _⟩
theorem closure_any (b W T x : Nat) (w : World) (h0 : w.cell? ⟨b, 0, none⟩ = some (.int .i64 W)) (h1 : w.cell? ⟨b, 1, none⟩ = some (.int .i64 T)) (hW2 : W ≤ 16) (hT : T < 2 ^ W) (hx : x < 2 ^ W) :
  Calls Tryz.prog 122 #[.int .i64 x, .pointer (some ⟨b, 0, none⟩)] w fun e w' => e = .returned (.int .i64 (nextR W T x : Nat)) ∧ Below w.heap.size w w' := by
 go_enter Tryz.func122, Tryz.ntmps122
 go_wp2_with (go_at_call 118; refine (implStep_any W T x _ hW2 hT hx).mono ?_; rintro e w1 ⟨rfl, hb1⟩)
 go_ret
 exact ⟨rfl, hb1⟩
theorem cycleFromR_any (b W T x : Nat) (w : World) (h0 : w.cell? ⟨b, 0, none⟩ = some (.int .i64 W)) (h1 : w.cell? ⟨b, 1, none⟩ = some (.int .i64 T)) (hb : b < w.heap.size) (hW2 : W ≤ 16) (hT : T < 2 ^ W) (hx : x < 2 ^ W) :
  Calls Tryz.prog 121 #[.int .i64 ((2 : Int) ^ W), .int .i64 x, .func (Fn.func 122) #[] #[.pointer (some ⟨b, 0, none⟩)]] w (Cong.CycRet (nextR W T) x w) := by
 have hp : 2 ^ W ≤ 65536 := Nat.pow_le_pow_right (by decide) hW2
 have hmk := run_make_row' (P := Tryz.prog) 43 2 (.int .i64 0) 8 Tryz.underlying43 Cong.info64 rfl .i64 .i64 (2 ^ W) (by omega) (by omega)
 have ep : ((2 ^ W : Nat) : Int) = (2 : Int) ^ W := by simp
 rw [ep] at hmk
 have hTT : ∀ s, s < 2 ^ W → nextR W T s < 2 ^ W := fun s hs => nextR_lt hs
 clear ep
 go_enter Tryz.func121, Tryz.ntmps121
 go_wp2
 clear hmk
 go_loopw [1, 9] (fun xv nv wr => Cong.CycRel (nextR W T) x (2 ^ W) 2 w xv nv wr) (fun _ nv _ => 2 ^ W + 2 - (intOf nv).toNat)
 case atStart => exact Cong.CycRel.start _ _ _ _ _
 case round =>
  obtain ⟨n, F, hn, hS, hrow, hbel, rfl, rfl⟩ := hrel
  have hlt := CycM.iter_lt hTT hx n
  have HS := J (hS.done hTT hx)
  have hpos : F (CycM.iter (nextR W T) x n) ≠ 0 → F (CycM.iter (nextR W T) x n) ≤ n := fun h => (hS.pos _ hlt h).1
  have HF := J (Cong.CycRel.next2 (t := 2) (w := w) hTT hx hS hrow hbel)
  have hz : w.heap.size < wr.heap.size := hrow.lt
  have ef := hrow.frozen (CycM.iter (nextR W T) x n)
  have ec := hrow.cell hlt
  obtain ⟨hc, hfz⟩ := bcell hbel
  have e0 := (hc b 0 hb).trans h0
  have e1 := (hc b 1 hb).trans h1
  clear hS hrow hc hfz h0 h1
  generalize CycM.iter (nextR W T) x n = s at *
  by_cases hz0 : F s = 0
  ·rw [hz0] at ec
   have g0 := Cong.setOther (w := wr) (B := w.heap.size) (s := s) hb e0
   have g1 := Cong.setOther (w := wr) (B := w.heap.size) (s := s) hb e1
   clear e0 e1 hpos
   go_wp2_with (go_at_call 122; refine (closure_any b W T s _ (g0 _) (g1 _) hW2 hT hlt).mono ?_; rintro e w1 ⟨rfl, hb1⟩)
   go_roundw
   case rel => exact HF.out hz0 _ (hb1.mono (by simp))
   case measure => simp [intOf]; omega
  ·have hF1 : 1 ≤ F s := by omega
   have hF2 := hpos hz0
   clear hpos
   go_wp2
   go_ret2
   exact Cong.CycRet.mk (HS.out hz0) hF1 (by omega) rfl hbel
theorem cycleR_any (W T x : Nat) (w : World) (hW2 : W ≤ 16) (hT : T < 2 ^ W) (hx : x < 2 ^ W) :
  Calls Tryz.prog 73 #[.agg #[.int .i64 W, .int .i64 T], .int .i64 x] w (Cong.CycRet (nextR W T) x w) := by
 obtain ⟨p1, p2⟩ := pw_bd hW2
 go_enter Tryz.func73, Tryz.ntmps73
 go_wp2_with (go_at_call 121; refine (cycleFromR_any _ W T x _ (by simp) (by simp) (by simp) hW2 hT hx).mono ?_; rintro e w1 ⟨j, n, hc, rfl, hb1⟩; have HC := J hc; clear hc)
 go_ret2
 exact ⟨j, n, HC.out, rfl, Base.Below.boxed hb1⟩
end Reg
namespace Poly
def ev (s : Nat → Bool) : Nat → Nat → Bool
 | 0, _ => false
 | k + 1, q => (ev s k q) ^^ (q.testBit k && s k)
theorem ev_more (s : Nat → Bool) {q k : Nat} (h : q < 2 ^ k) : ∀ m, ev s (k + m) q = ev s k q
 | 0 => rfl
 | m + 1 => by
  have h1 : q.testBit (k + m) = false := Nat.testBit_lt_two_pow (Nat.lt_of_lt_of_le h (Nat.pow_le_pow_right (by decide) (by omega)))
  rw [← Nat.add_assoc]
  simp only [ev, ev_more s h m, h1]
  simp
theorem ev_fuel (s : Nat → Bool) {q k l : Nat} (h : q < 2 ^ k) (hkl : k ≤ l) : ev s l q = ev s k q := by
 obtain ⟨m, rfl⟩ : ∃ m, l = k + m := ⟨l - k, by omega⟩
 exact ev_more s h m
theorem ev_congr {s t : Nat → Bool} (q : Nat) : ∀ k, (∀ i, i < k → s i = t i) → ev s k q = ev t k q
 | 0, _ => rfl
 | k + 1, h => by simp only [ev, ev_congr q k (fun i hi => h i (by omega)), h k (by omega)]
def Lrs (p : Nat) (s : Nat → Bool) : Prop := ∀ k, ev (fun i => s (k + i)) 64 p = false
def Rep (p a N : Nat) : Prop := ∀ s, Lrs p s → ev s 64 a = s N
theorem Rep.one (p : Nat) : Rep p 1 0 := fun s _ => by
 rw [ev_fuel s (k := 1) (by decide) (by decide)]; simp [ev]
theorem Rep.two (p : Nat) : Rep p 2 1 := fun s _ => by
 rw [ev_fuel s (k := 2) (by decide) (by decide)]; simp [ev, Nat.testBit]
theorem ev_lin (s : Nat → Bool) (a : Nat) (p : Nat) : ∀ k, ev (fun i => ev (fun j => s (i + j)) k a) 64 p = ev (fun j => ev (fun i => s (i + j)) 64 p) k a
 | 0 => by
  simp only [ev]
  have : ∀ l q, ev (fun _ => false) l q = false := fun l q => by
   induction l with
   | zero => rfl
   | succ l ih => simp [ev, ih]
  exact this 64 p
 | k + 1 => by
  rw [show ev (fun j => ev (fun i => s (i + j)) 64 p) (k + 1) a = ((ev (fun j => ev (fun i => s (i + j)) 64 p) k a) ^^ (a.testBit k && ev (fun i => s (i + k)) 64 p)) from rfl, ← ev_lin s a p k]
  have : ∀ l (f g : Nat → Bool) (c : Bool) q, ev (fun i => (f i) ^^ (c && g i)) l q = ((ev f l q) ^^ (c && ev g l q)) := fun l f g c q => by
   induction l with
   | zero => cases c <;> rfl
   | succ l ih =>
    simp only [ev, ih]
    cases ev f l q <;> cases ev g l q <;> cases q.testBit l <;> cases f l <;> cases g l <;> cases c <;> rfl
  exact this 64 (fun i => ev (fun j => s (i + j)) k a) (fun i => s (i + k)) (a.testBit k) p
theorem Lrs.sum {p : Nat} {s : Nat → Bool} (hs : Lrs p s) (a : Nat) : Lrs p fun i => ev (fun j => s (i + j)) 64 a := fun k => by
 have h := ev_lin (fun i => s (k + i)) a p 64
 have e : (fun i => ev (fun j => s (k + i + j)) 64 a) = fun i => ev (fun j => s (k + (i + j))) 64 a := by simp only [Nat.add_assoc]
 have h' : ev (fun i => ev (fun j => s (k + (i + j))) 64 a) 64 p = ev (fun j => ev (fun i => s (k + (i + j))) 64 p) 64 a := h
 rw [e, h']
 have : ∀ j, ev (fun i => s (k + (i + j))) 64 p = false := fun j => by
  have e : (fun i => s (k + j + i)) = fun i => s (k + (i + j)) := funext fun i => congrArg s (by omega)
  exact (congrArg (fun f => ev f 64 p) e).symm.trans (hs (k + j))
 rw [ev_congr (t := fun _ => false) a 64 (fun i _ => this i)]
 have h0 : ∀ l q, ev (fun _ => false) l q = false := fun l q => by
  induction l with
  | zero => rfl
  | succ l ih => simp [ev, ih]
 exact h0 64 a
end Poly
end Go.Proofs.YtgipnbeipfhekaaGreatDoor

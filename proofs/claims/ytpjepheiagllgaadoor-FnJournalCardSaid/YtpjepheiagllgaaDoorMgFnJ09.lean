/- What is drawn is valid: one of some numbers, a congruence. -/
import Derived.Test.YtpjepheiagllgaaDoorMgFnJ03
import Derived.Test.YtpjepheiagllgaaDoorMgFnJ08
import Derived.Deep.RegionHeld3
namespace Go.Proofs.YtpjepheiagllgaaDoor.Draw
open Go.RowKit Go.Proofs.YtpjepheiagllgaaDoor Go.Proofs.YtpjepheiagllgaaDoor.Base Go.Proofs.YtpjepheiagllgaaDoor.Mem Go.Proofs.YtpjepheiagllgaaDoor.Src Go.Proofs.YtpjepheiagllgaaDoor.Blk Go.Proofs.YtpjepheiagllgaaDoor.Pow
set_option linter.unusedVariables false
theorem Src.set' {w : World} {p K : Nat} (h : Src w p K) {a : Addr} (ha : p < a.block) (v : Value) : Src (w.setCell a v) p K := h.kept (grown_setCell w a v) fun g e => by cases e; exact ha
theorem Src.apart {w w' : World} {p q K : Nat} {t : TypeId} {cs : Array Value} (h : Src w p K) (hb : Blk w q t cs) (hcs : ∀ (i : Nat) (n : Int), cs[i]? ≠ some (.int .u8 n)) (hq : q ≠ p) (hg : w.grownBy w' (some q)) : Src w' p K := by
 have hp := h.lt
 obtain ⟨A, c, zs, a, sd, h0, h1, h2, hf, h3, h4, h5, h6, h7, h8⟩ := h.ex
 have hk : ∀ g, g < w.heap.size → g ≠ q → w'.heap[g]? = w.heap[g]? := fun g h1 h2 => hg.block g h1 fun e => h2 (Option.some.inj e)
 have hc : ∀ i, w'.cell? ⟨p, i, none⟩ = w.cell? ⟨p, i, none⟩ := fun i => World.cell?_of_block (a := ⟨p, i, none⟩) (hk p hp (Ne.symm hq))
 refine ⟨A, c, zs, a, sd, (hc 0).trans h0, (hc 1).trans h1, (hc 2).trans h2, fun i => (World.frozen?_of_block (a := ⟨p, i, none⟩) (hk p hp (Ne.symm hq))).trans (hf i), h3, h4, h5, h6, h7, fun hl => ?_⟩
 obtain ⟨b, off, e, hlt, hcell⟩ := h8 hl
 have hbq : b ≠ q := fun e2 => by
  subst e2
  have := hcell 0 hl
  rw [hb.cell] at this
  exact hcs _ _ this
 exact ⟨b, off, e, hlt, fun i hi => (World.cell?_of_block (a := ⟨b, off + i, none⟩) (hk b (by omega) hbq)).trans (hcell i hi)⟩
theorem no8 {a b c : Int} : ∀ (i : Nat) (n : Int), (#[Value.int .i64 a, .int .i64 b, .int .i64 c] : Array Value)[i]? ≠ some (.int .u8 n) := fun i n h => by
 match i with
 | 0 => simp at h
 | 1 => simp at h
 | 2 => simp at h
 | i + 3 => simp at h
theorem Src.put3 {w : World} {p q K : Nat} {t : TypeId} {a b c x y z : Int} (h : Src w p K) (hb : Blk w q t #[.int .i64 a, .int .i64 b, .int .i64 c]) (hq : q ≠ p) : Src (put3 w q (.int .i64 x) (.int .i64 y) (.int .i64 z)) p K :=
 Src.apart (Src.apart (Src.apart h hb no8 hq (grown_setCell w ⟨q, 0, none⟩ _)) (hb.setTo 0 _ rfl) no8 hq (grown_setCell _ ⟨q, 1, none⟩ _)) ((hb.setTo 0 _ rfl).setTo 1 _ rfl) no8 hq (grown_setCell _ ⟨q, 2, none⟩ _)
def AmongRet (p K : Nat) (xs : List Int) (w : World) (e : Ending) (w' : World) : Prop := ∃ r : Nat, e = .returned (.int .i64 (xs.getD r 0)) ∧ r < xs.length ∧ Src w' p K ∧ w.grownBy w' (some p)
set_option maxHeartbeats 1000000 in
set_option maxRecDepth 100000 in
theorem among_any (p K b c : Nat) (xs : List Int) (w : World) (h : Src w p K) (hK : K ≤ 1000000000000) (hb : b ≠ p) (hlt : b < w.heap.size) (hl : 1 ≤ xs.length) (hm : xs.length ≤ 1000000) (hc : ∀ i, i < xs.length → w.cell? ⟨b, i, none⟩ = some (.int .i64 (xs.getD i 0))) :
  Calls Tryd.prog 44 #[.pointer (some ⟨p, 0, none⟩), .slice (some ⟨b, 0, none⟩) xs.length c] w (AmongRet p (K + 2) xs w) := by
 have HP := Lib.hid (pick_any p K xs.length w h hK)
 have HCc := Lib.hid hc
 clear h hc
 go_enter Tryd.func44, Tryd.ntmps44
 go_wp2_with fail
 refine HP.out.mono ?_
 rintro e w1 ⟨r, rfl, hr, s1, g1⟩
 have hr' : r < xs.length := by omega
 have hcell : w1.cell? ⟨b, r, none⟩ = some (.int .i64 (xs.getD r 0)) := (World.cell?_of_block (a := ⟨b, r, none⟩) (g1.block b hlt fun e => hb (Option.some.inj e))).trans (HCc.out r hr')
 have S1 := Lib.hid s1
 have G1 := Lib.hid g1
 clear s1 g1 hr
 have HR : Hid (∀ v, v = xs.getD r 0 → AmongRet p (K + 2) xs w (.returned (.int .i64 v)) w1) := Lib.hid fun v hv => ⟨r, by rw [hv], hr', S1.out, G1.out⟩
 generalize xs.getD r 0 = v at *
 go_wp2
 go_ret
 exact HR.out _ rfl
def CongRet (p K : Nat) (w : World) (e : Ending) (w' : World) : Prop := ∃ m f a : Nat, 2 ≤ m ∧ m ≤ 5000 ∧ f < m ∧ a < m ∧ e = .returned (.agg #[.int .i64 ((m : Nat) : Int), .int .i64 ((f : Nat) : Int), .int .i64 ((a : Nat) : Int)]) ∧ Src w' p K ∧ Beside p w w'
theorem End.plain {p K m f a : Nat} {w w8 : World} (hm : 2 ≤ m) (hm2 : m ≤ 5000) (hf : f < m) (ha : a < m) (hb : Beside p w w8) (hr : Blk w8 w.heap.size 65 #[.int .i64 0, .int .i64 0, .int .i64 0]) (hs : Src w8 p K) (hp : p < w.heap.size) :
  let w9 := ((w8.setCell ⟨w.heap.size, 0, none⟩ (.int .i64 (m : Int))).setCell ⟨w.heap.size, 1, none⟩ (.int .i64 (f : Int))).setCell ⟨w.heap.size, 2, none⟩ (.int .i64 (a : Int))
  w9.cell? ⟨w.heap.size, 0, none⟩ = some (.int .i64 (m : Int)) ∧ w9.cell? ⟨w.heap.size, 1, none⟩ = some (.int .i64 (f : Int)) ∧ w9.cell? ⟨w.heap.size, 2, none⟩ = some (.int .i64 (a : Int)) ∧ CongRet p K w (.returned (.agg #[.int .i64 ((m : Nat) : Int), .int .i64 ((f : Nat) : Int), .int .i64 ((a : Nat) : Int)])) w9 := by
 have S := hr.set3 (.int .i64 (m : Int)) (.int .i64 (f : Int)) (.int .i64 (a : Int))
 refine ⟨S.at 0 rfl, S.at 1 rfl, S.at 2 rfl, m, f, a, hm, hm2, hf, ha, rfl, ?_, ?_⟩
 ·exact Src.set' (Src.set' (Src.set' hs (a := ⟨w.heap.size, 0, none⟩) hp _) (a := ⟨w.heap.size, 1, none⟩) hp _) (a := ⟨w.heap.size, 2, none⟩) hp _
 ·exact ((hb.set (a := ⟨w.heap.size, 0, none⟩) (Nat.le_refl _) _).set (a := ⟨w.heap.size, 1, none⟩) (Nat.le_refl _) _).set (a := ⟨w.heap.size, 2, none⟩) (Nat.le_refl _) _
theorem End.half {p K m F a b : Nat} {w w8 : World} (hm : 2 ≤ m) (hm2 : m ≤ 5000) (ha : a < m) (h4 : 4 < m) (hb : Beside p w w8) (hr : Blk w8 w.heap.size 65 #[.int .i64 0, .int .i64 0, .int .i64 0]) (hs : Src w8 p K) (hp : p < w.heap.size) (hbb : w.heap.size < b) :
  let w9 := (((w8.setCell ⟨b, 1, none⟩ (.int .i64 (1 + (m : Int) / 2))).setCell ⟨w.heap.size, 0, none⟩ (.int .i64 (m : Int))).setCell ⟨w.heap.size, 1, none⟩ (.int .i64 (1 + (m : Int) / 2))).setCell ⟨w.heap.size, 2, none⟩ (.int .i64 (a : Int))
  w9.cell? ⟨w.heap.size, 0, none⟩ = some (.int .i64 (m : Int)) ∧ w9.cell? ⟨w.heap.size, 1, none⟩ = some (.int .i64 ((1 + m / 2 : Nat) : Int)) ∧ w9.cell? ⟨w.heap.size, 2, none⟩ = some (.int .i64 (a : Int)) ∧ CongRet p K w (.returned (.agg #[.int .i64 ((m : Nat) : Int), .int .i64 ((1 + m / 2 : Nat) : Int), .int .i64 ((a : Nat) : Int)])) w9 := by
 have e : (1 : Int) + (m : Int) / 2 = ((1 + m / 2 : Nat) : Int) := by simp
 rw [e]
 exact End.plain (f := 1 + m / 2) hm hm2 (by omega) ha (hb.set (a := ⟨b, 1, none⟩) (Nat.le_of_lt hbb) _) (hr.other (a := ⟨b, 1, none⟩) _ (by show b ≠ w.heap.size; omega)) (Src.set' hs (a := ⟨b, 1, none⟩) (by show p < b; omega) _) hp
theorem lits_cell {W : World} {b : Nat} {xs : List Int} (h : Blk W b 2 (ints xs).toArray) : ∀ i, i < xs.length → W.cell? ⟨b, i, none⟩ = some (.int .i64 (xs.getD i 0)) := fun i hi => by
 rw [h.cell i, List.getElem?_toArray, ints_get xs i hi]
set_option maxHeartbeats 1000000 in
set_option maxRecDepth 100000 in
theorem l03DrawOk_any (p K : Nat) (w : World) (h : Src w p K) (hK : K ≤ 100000000000) :
  Calls Tryd.prog 34 #[.pointer (some ⟨p, 0, none⟩)] w (CongRet p (K + 12) w) := by
 have hp := h.lt
 obtain ⟨W0, hW0⟩ : ∃ W0, W0 = w.alloc (.cells #[.int .i64 0, .int .i64 0, .int .i64 0] 65) := ⟨_, rfl⟩
 have B0 : Beside p w W0 := by rw [hW0]; exact (Beside.refl p w).alloc _
 have R0 : Blk W0 w.heap.size 65 #[.int .i64 0, .int .i64 0, .int .i64 0] := by rw [hW0]; exact Blk.new _ _ _
 have S0 : Src W0 p K := by rw [hW0]; exact h.below ((Below.refl _ _).alloc (Nat.le_refl _) _)
 have HW := Lib.hid hW0
 have HB0 := Lib.hid B0
 have HR0 := Lib.hid R0
 have HP := Lib.hid (pick_any p K 60 W0 S0 (by omega))
 clear hW0 B0 R0 S0 h
 go_enter Tryd.func34, Tryd.ntmps34
 go_wp2_with fail
 rw [← HW.out]
 refine HP.out.mono ?_
 rintro e w1 ⟨r1, rfl, hr1, s1, g1⟩
 have B1 := Lib.hid (HB0.out.trans (Beside.grown g1))
 have R1 := Lib.hid (HR0.out.src g1 (by omega))
 have HP2 := Lib.hid (pick_any p (K + 2) 8 w1 s1 (by omega))
 clear s1 g1
 go_wp2_with fail
 refine HP2.out.mono ?_
 rintro e w2 ⟨r2, rfl, hr2, s2, g2⟩
 have B2 := Lib.hid (B1.out.trans (Beside.grown g2))
 have R2 := Lib.hid (R1.out.src g2 (by omega))
 have S2 := Lib.hid s2
 clear s2 g2 B1 R1 HB0 HR0
 by_cases h0 : r2 = 0
 ·subst h0
  have HP3 := Lib.hid (pick_any p (K + 4) 4000 w2 S2.out (by omega))
  go_wp2_with fail
  refine HP3.out.mono ?_
  rintro e w3 ⟨r3, rfl, hr3, s3, g3⟩
  obtain ⟨M, hM⟩ : ∃ M : Nat, (2 : Int) + (r3 : Int) = (M : Int) := ⟨2 + r3, by simp⟩
  have hM2 : 2 ≤ M := by omega
  have hM5 : M ≤ 5000 := by omega
  have S3 := Lib.hid s3
  have B3 := Lib.hid (B2.out.trans (Beside.grown g3))
  have R3 := Lib.hid (R2.out.src g3 (by omega))
  clear s3 g3 hr3 hr1 hr2
  have HP4 := Lib.hid (pick_any p (K + 6) M w3 S3.out (by omega))
  go_wp2_with fail
  refine HP4.out.mono ?_
  rintro e w4 ⟨F, rfl, hF, s4, g4⟩
  have hF2 : F < M := by omega
  have B4 := B3.out.trans (Beside.grown g4)
  have R4 := R3.out.src g4 (by omega)
  have hz4 := R4.lt
  have hp4 : p < w4.heap.size := by omega
  obtain ⟨W4, hW4⟩ : ∃ W4, W4 = w4.alloc (.cells #[.int .i64 (M : Int), .int .i64 (F : Int), .int .i64 0] 65) := ⟨_, rfl⟩
  have B5 : Beside p w W4 := by rw [hW4]; exact B4.alloc _
  have R5 : Blk W4 w.heap.size 65 #[.int .i64 0, .int .i64 0, .int .i64 0] := by rw [hW4]; exact R4.alloc _
  have S5 : Src W4 p (K + 8) := by rw [hW4]; exact s4.below ((Below.refl _ _).alloc (Nat.le_refl _) _)
  have N5 : Blk W4 w4.heap.size 65 #[.int .i64 (M : Int), .int .i64 (F : Int), .int .i64 0] := by rw [hW4]; exact Blk.new _ _ _
  have HW4 := Lib.hid hW4
  have HP5 := Lib.hid (pick_any p (K + 8) M W4 S5 (by omega))
  have HB5 := Lib.hid B5
  have HR5 := Lib.hid R5
  have HN5 := Lib.hid N5
  clear s4 g4 B4 R4 hW4 B5 R5 S5 N5 hF
  go_wp2_with fail
  rw [← HW4.out]
  refine HP5.out.mono ?_
  rintro e w6 ⟨A, rfl, hA, s6, g6⟩
  have hA2 : A < M := by omega
  have B6 := HB5.out.trans (Beside.grown g6)
  have R6 := HR5.out.src g6 (by omega)
  have N6 := HN5.out.src g6 (by omega)
  have n60 := N6.at 0 (v := .int .i64 (M : Int)) rfl
  have n61 := N6.at 1 (v := .int .i64 (F : Int)) rfl
  have n62 := N6.at 2 (v := .int .i64 0) rfl
  have f60 := N6.frz 0
  have f61 := N6.frz 1
  have f62 := N6.frz 2
  obtain ⟨w7, hw7⟩ : ∃ w7, w7 = w6.setCell ⟨w4.heap.size, 2, none⟩ (.int .i64 (A : Int)) := ⟨_, rfl⟩
  have B7 : Beside p w w7 := by rw [hw7]; exact B6.set (by show w.heap.size ≤ w4.heap.size; omega) _
  have R7 : Blk w7 w.heap.size 65 #[.int .i64 0, .int .i64 0, .int .i64 0] := by rw [hw7]; exact R6.other _ (by show w4.heap.size ≠ w.heap.size; omega)
  have N7 : Blk w7 w4.heap.size 65 #[.int .i64 ((M : Nat) : Int), .int .i64 ((F : Nat) : Int), .int .i64 ((A : Nat) : Int)] := by rw [hw7]; exact N6.setTo 2 _ rfl
  have S7 : Src w7 p (K + 10) := by rw [hw7]; exact Src.set' s6 (by show p < w4.heap.size; omega) _
  have HW7 := Lib.hid hw7
  have HP7 := Lib.hid (one_any p (K + 10) 4 w7 S7 (by omega))
  have HB7 := Lib.hid B7
  have HR7 := Lib.hid R7
  have HN7 := Lib.hid N7
  clear s6 g6 B6 R6 N6 hw7 B7 R7 S7 N7 hA
  go_wp2_with fail
  rw [← HW7.out]
  refine HP7.out.mono ?_
  rintro e w8 ⟨r8, rfl, s8, g8⟩
  clear n60 n61 n62 f60 f61 f62
  have B8 := HB7.out.trans (Beside.grown g8)
  have R8 := HR7.out.src g8 (by omega)
  have N8 := HN7.out.src g8 (by omega)
  have r80 := R8.at 0 (v := .int .i64 0) rfl
  have r81 := R8.at 1 (v := .int .i64 0) rfl
  have r82 := R8.at 2 (v := .int .i64 0) rfl
  have f80 := R8.frz 0
  have f81 := R8.frz 1
  have f82 := R8.frz 2
  have n80 := N8.at 0 (v := .int .i64 (M : Int)) rfl
  have n81 := N8.at 1 (v := .int .i64 (F : Int)) rfl
  have n82 := N8.at 2 (v := .int .i64 (A : Int)) rfl
  have h80 := N8.frz 0
  have h81 := N8.frz 1
  have h82 := N8.frz 2
  have hne : w4.heap.size ≠ w.heap.size := by omega
  have hne2 : w.heap.size ≠ w4.heap.size := by omega
  have HD0 := Lib.hid (End.plain (K := K + 12) hM2 hM5 hF2 hA2 B8 R8 s8 hp)
  have HD1 := Lib.hid (fun h4 => End.half (F := F) (K := K + 12) hM2 hM5 hA2 h4 B8 R8 s8 hp (b := w4.heap.size) (by omega))
  clear B8 R8 N8 s8 g8
  cases r8 with
  | false =>
   go_wp2
   obtain ⟨q0, q1, q2, q3⟩ := HD0.out
   exact bodyPost_ret (v := .agg #[.int .i64 ((M : Nat) : Int), .int .i64 ((F : Nat) : Int), .int .i64 ((A : Nat) : Int)]) (by simp [results, Tryd.results34, go_sem, q0, q1, q2]) rfl q3
  | true =>
   by_cases h4 : (M : Int) > 4
   ·go_wp2
    obtain ⟨q0, q1, q2, q3⟩ := HD1.out (by omega)
    exact bodyPost_ret (v := .agg #[.int .i64 ((M : Nat) : Int), .int .i64 ((1 + M / 2 : Nat) : Int), .int .i64 ((A : Nat) : Int)]) (by simp [results, Tryd.results34, go_sem, q0, q1, q2]) rfl q3
   ·go_wp2
    obtain ⟨q0, q1, q2, q3⟩ := HD0.out
    exact bodyPost_ret (v := .agg #[.int .i64 ((M : Nat) : Int), .int .i64 ((F : Nat) : Int), .int .i64 ((A : Nat) : Int)]) (by simp [results, Tryd.results34, go_sem, q0, q1, q2]) rfl q3
 ·by_cases h1 : r2 = 1
  ·subst h1
   obtain ⟨W2, hW2⟩ : ∃ W2, W2 = w2.alloc (.cells #[.int .i64 16, .int .i64 64, .int .i64 256, .int .i64 100, .int .i64 81, .int .i64 31, .int .i64 127] 2) := ⟨_, rfl⟩
   have hz2 := R2.out.lt
   have S2' : Src W2 p (K + 4) := by rw [hW2]; exact S2.out.below ((Below.refl _ _).alloc (Nat.le_refl _) _)
   have hcs : ∀ i, i < [16, 64, 256, 100, 81, 31, 127].length → W2.cell? ⟨w2.heap.size, i, none⟩ = some (.int .i64 (([16, 64, 256, 100, 81, 31, 127] : List Int).getD i 0)) := by
    rw [hW2]; exact lits_cell (xs := [16, 64, 256, 100, 81, 31, 127]) (Blk.new w2 2 _)
   have HP3 := Lib.hid (among_any p (K + 4) w2.heap.size 7 [16, 64, 256, 100, 81, 31, 127] W2 S2' (by omega) (by omega) (by rw [hW2]; simp) (by decide) (by decide) hcs)
   have BW2 := Lib.hid (show Beside p w W2 by rw [hW2]; exact B2.out.alloc _)
   have RW2 := Lib.hid (show Blk W2 w.heap.size 65 #[.int .i64 0, .int .i64 0, .int .i64 0] by rw [hW2]; exact R2.out.alloc _)
   have HW2 := Lib.hid hW2
   clear hW2 S2' hcs
   go_wp2_with fail
   rw [← HW2.out]
   refine HP3.out.mono ?_
   rintro e w3 ⟨r3, rfl, hr3, s3, g3⟩
   have hv : ∀ r, r < 7 → 2 ≤ ([16, 64, 256, 100, 81, 31, 127] : List Int).getD r 0 ∧ ([16, 64, 256, 100, 81, 31, 127] : List Int).getD r 0 ≤ 5000 := by decide
   obtain ⟨hv1, hv2⟩ := hv r3 hr3
   generalize ([16, 64, 256, 100, 81, 31, 127] : List Int).getD r3 0 = v at *
   obtain ⟨M, rfl⟩ := Int.eq_ofNat_of_zero_le (show 0 ≤ v by omega)
   have hM2 : 2 ≤ M := by omega
   have hM5 : M ≤ 5000 := by omega
   have S3 := Lib.hid s3
   have B3 := Lib.hid (BW2.out.trans (Beside.grown g3))
   have R3 := Lib.hid (RW2.out.src g3 (by omega))
   clear s3 g3 hr3 hr1 hr2 hv hv1 hv2
   have HP4 := Lib.hid (pick_any p (K + 6) M w3 S3.out (by omega))
   go_wp2_with fail
   refine HP4.out.mono ?_
   rintro e w4 ⟨F, rfl, hF, s4, g4⟩
   have hF2 : F < M := by omega
   have B4 := B3.out.trans (Beside.grown g4)
   have R4 := R3.out.src g4 (by omega)
   have hz4 := R4.lt
   have hp4 : p < w4.heap.size := by omega
   obtain ⟨W4, hW4⟩ : ∃ W4, W4 = w4.alloc (.cells #[.int .i64 (M : Int), .int .i64 (F : Int), .int .i64 0] 65) := ⟨_, rfl⟩
   have B5 : Beside p w W4 := by rw [hW4]; exact B4.alloc _
   have R5 : Blk W4 w.heap.size 65 #[.int .i64 0, .int .i64 0, .int .i64 0] := by rw [hW4]; exact R4.alloc _
   have S5 : Src W4 p (K + 8) := by rw [hW4]; exact s4.below ((Below.refl _ _).alloc (Nat.le_refl _) _)
   have N5 : Blk W4 w4.heap.size 65 #[.int .i64 (M : Int), .int .i64 (F : Int), .int .i64 0] := by rw [hW4]; exact Blk.new _ _ _
   have HW4 := Lib.hid hW4
   have HP5 := Lib.hid (pick_any p (K + 8) M W4 S5 (by omega))
   have HB5 := Lib.hid B5
   have HR5 := Lib.hid R5
   have HN5 := Lib.hid N5
   clear s4 g4 B4 R4 hW4 B5 R5 S5 N5 hF
   go_wp2_with fail
   rw [← HW4.out]
   refine HP5.out.mono ?_
   rintro e w6 ⟨A, rfl, hA, s6, g6⟩
   have hA2 : A < M := by omega
   have B6 := HB5.out.trans (Beside.grown g6)
   have R6 := HR5.out.src g6 (by omega)
   have N6 := HN5.out.src g6 (by omega)
   have n60 := N6.at 0 (v := .int .i64 (M : Int)) rfl
   have n61 := N6.at 1 (v := .int .i64 (F : Int)) rfl
   have n62 := N6.at 2 (v := .int .i64 0) rfl
   have f60 := N6.frz 0
   have f61 := N6.frz 1
   have f62 := N6.frz 2
   obtain ⟨w7, hw7⟩ : ∃ w7, w7 = w6.setCell ⟨w4.heap.size, 2, none⟩ (.int .i64 (A : Int)) := ⟨_, rfl⟩
   have B7 : Beside p w w7 := by rw [hw7]; exact B6.set (by show w.heap.size ≤ w4.heap.size; omega) _
   have R7 : Blk w7 w.heap.size 65 #[.int .i64 0, .int .i64 0, .int .i64 0] := by rw [hw7]; exact R6.other _ (by show w4.heap.size ≠ w.heap.size; omega)
   have N7 : Blk w7 w4.heap.size 65 #[.int .i64 ((M : Nat) : Int), .int .i64 ((F : Nat) : Int), .int .i64 ((A : Nat) : Int)] := by rw [hw7]; exact N6.setTo 2 _ rfl
   have S7 : Src w7 p (K + 10) := by rw [hw7]; exact Src.set' s6 (by show p < w4.heap.size; omega) _
   have HW7 := Lib.hid hw7
   have HP7 := Lib.hid (one_any p (K + 10) 4 w7 S7 (by omega))
   have HB7 := Lib.hid B7
   have HR7 := Lib.hid R7
   have HN7 := Lib.hid N7
   clear s6 g6 B6 R6 N6 hw7 B7 R7 S7 N7 hA
   go_wp2_with fail
   rw [← HW7.out]
   refine HP7.out.mono ?_
   rintro e w8 ⟨r8, rfl, s8, g8⟩
   clear n60 n61 n62 f60 f61 f62
   have B8 := HB7.out.trans (Beside.grown g8)
   have R8 := HR7.out.src g8 (by omega)
   have N8 := HN7.out.src g8 (by omega)
   have r80 := R8.at 0 (v := .int .i64 0) rfl
   have r81 := R8.at 1 (v := .int .i64 0) rfl
   have r82 := R8.at 2 (v := .int .i64 0) rfl
   have f80 := R8.frz 0
   have f81 := R8.frz 1
   have f82 := R8.frz 2
   have n80 := N8.at 0 (v := .int .i64 (M : Int)) rfl
   have n81 := N8.at 1 (v := .int .i64 (F : Int)) rfl
   have n82 := N8.at 2 (v := .int .i64 (A : Int)) rfl
   have h80 := N8.frz 0
   have h81 := N8.frz 1
   have h82 := N8.frz 2
   have hne : w4.heap.size ≠ w.heap.size := by omega
   have hne2 : w.heap.size ≠ w4.heap.size := by omega
   have HD0 := Lib.hid (End.plain (K := K + 12) hM2 hM5 hF2 hA2 B8 R8 s8 hp)
   have HD1 := Lib.hid (fun h4 => End.half (F := F) (K := K + 12) hM2 hM5 hA2 h4 B8 R8 s8 hp (b := w4.heap.size) (by omega))
   clear B8 R8 N8 s8 g8
   cases r8 with
   | false =>
    go_wp2
    obtain ⟨q0, q1, q2, q3⟩ := HD0.out
    exact bodyPost_ret (v := .agg #[.int .i64 ((M : Nat) : Int), .int .i64 ((F : Nat) : Int), .int .i64 ((A : Nat) : Int)]) (by simp [results, Tryd.results34, go_sem, q0, q1, q2]) rfl q3
   | true =>
    by_cases h4 : (M : Int) > 4
    ·go_wp2
     obtain ⟨q0, q1, q2, q3⟩ := HD1.out (by omega)
     exact bodyPost_ret (v := .agg #[.int .i64 ((M : Nat) : Int), .int .i64 ((1 + M / 2 : Nat) : Int), .int .i64 ((A : Nat) : Int)]) (by simp [results, Tryd.results34, go_sem, q0, q1, q2]) rfl q3
    ·go_wp2
     obtain ⟨q0, q1, q2, q3⟩ := HD0.out
     exact bodyPost_ret (v := .agg #[.int .i64 ((M : Nat) : Int), .int .i64 ((F : Nat) : Int), .int .i64 ((A : Nat) : Int)]) (by simp [results, Tryd.results34, go_sem, q0, q1, q2]) rfl q3
  ·obtain ⟨M, hM⟩ : ∃ M : Nat, (2 : Int) + (r1 : Int) = (M : Int) := ⟨2 + r1, by simp⟩
   have hM2 : 2 ≤ M := by omega
   have hM5 : M ≤ 5000 := by omega
   have h0' : ((r2 : Int) == 0) = false := by simp; omega
   have h1' : ((r2 : Int) == 1) = false := by simp; omega
   have S3 := Lib.hid (S2.out.more (L := K + 6) (by omega))
   have B3 := B2
   have R3 := R2
   clear hr1 hr2 h0 h1
   have HP4 := Lib.hid (pick_any p (K + 6) M w2 S3.out (by omega))
   go_wp2_with fail
   refine HP4.out.mono ?_
   rintro e w4 ⟨F, rfl, hF, s4, g4⟩
   have hF2 : F < M := by omega
   have B4 := B3.out.trans (Beside.grown g4)
   have R4 := R3.out.src g4 (by omega)
   have hz4 := R4.lt
   have hp4 : p < w4.heap.size := by omega
   obtain ⟨W4, hW4⟩ : ∃ W4, W4 = w4.alloc (.cells #[.int .i64 (M : Int), .int .i64 (F : Int), .int .i64 0] 65) := ⟨_, rfl⟩
   have B5 : Beside p w W4 := by rw [hW4]; exact B4.alloc _
   have R5 : Blk W4 w.heap.size 65 #[.int .i64 0, .int .i64 0, .int .i64 0] := by rw [hW4]; exact R4.alloc _
   have S5 : Src W4 p (K + 8) := by rw [hW4]; exact s4.below ((Below.refl _ _).alloc (Nat.le_refl _) _)
   have N5 : Blk W4 w4.heap.size 65 #[.int .i64 (M : Int), .int .i64 (F : Int), .int .i64 0] := by rw [hW4]; exact Blk.new _ _ _
   have HW4 := Lib.hid hW4
   have HP5 := Lib.hid (pick_any p (K + 8) M W4 S5 (by omega))
   have HB5 := Lib.hid B5
   have HR5 := Lib.hid R5
   have HN5 := Lib.hid N5
   clear s4 g4 B4 R4 hW4 B5 R5 S5 N5 hF
   go_wp2_with fail
   rw [← HW4.out]
   refine HP5.out.mono ?_
   rintro e w6 ⟨A, rfl, hA, s6, g6⟩
   have hA2 : A < M := by omega
   have B6 := HB5.out.trans (Beside.grown g6)
   have R6 := HR5.out.src g6 (by omega)
   have N6 := HN5.out.src g6 (by omega)
   have n60 := N6.at 0 (v := .int .i64 (M : Int)) rfl
   have n61 := N6.at 1 (v := .int .i64 (F : Int)) rfl
   have n62 := N6.at 2 (v := .int .i64 0) rfl
   have f60 := N6.frz 0
   have f61 := N6.frz 1
   have f62 := N6.frz 2
   obtain ⟨w7, hw7⟩ : ∃ w7, w7 = w6.setCell ⟨w4.heap.size, 2, none⟩ (.int .i64 (A : Int)) := ⟨_, rfl⟩
   have B7 : Beside p w w7 := by rw [hw7]; exact B6.set (by show w.heap.size ≤ w4.heap.size; omega) _
   have R7 : Blk w7 w.heap.size 65 #[.int .i64 0, .int .i64 0, .int .i64 0] := by rw [hw7]; exact R6.other _ (by show w4.heap.size ≠ w.heap.size; omega)
   have N7 : Blk w7 w4.heap.size 65 #[.int .i64 ((M : Nat) : Int), .int .i64 ((F : Nat) : Int), .int .i64 ((A : Nat) : Int)] := by rw [hw7]; exact N6.setTo 2 _ rfl
   have S7 : Src w7 p (K + 10) := by rw [hw7]; exact Src.set' s6 (by show p < w4.heap.size; omega) _
   have HW7 := Lib.hid hw7
   have HP7 := Lib.hid (one_any p (K + 10) 4 w7 S7 (by omega))
   have HB7 := Lib.hid B7
   have HR7 := Lib.hid R7
   have HN7 := Lib.hid N7
   clear s6 g6 B6 R6 N6 hw7 B7 R7 S7 N7 hA
   go_wp2_with fail
   rw [← HW7.out]
   refine HP7.out.mono ?_
   rintro e w8 ⟨r8, rfl, s8, g8⟩
   clear n60 n61 n62 f60 f61 f62
   have B8 := HB7.out.trans (Beside.grown g8)
   have R8 := HR7.out.src g8 (by omega)
   have N8 := HN7.out.src g8 (by omega)
   have r80 := R8.at 0 (v := .int .i64 0) rfl
   have r81 := R8.at 1 (v := .int .i64 0) rfl
   have r82 := R8.at 2 (v := .int .i64 0) rfl
   have f80 := R8.frz 0
   have f81 := R8.frz 1
   have f82 := R8.frz 2
   have n80 := N8.at 0 (v := .int .i64 (M : Int)) rfl
   have n81 := N8.at 1 (v := .int .i64 (F : Int)) rfl
   have n82 := N8.at 2 (v := .int .i64 (A : Int)) rfl
   have h80 := N8.frz 0
   have h81 := N8.frz 1
   have h82 := N8.frz 2
   have hne : w4.heap.size ≠ w.heap.size := by omega
   have hne2 : w.heap.size ≠ w4.heap.size := by omega
   have HD0 := Lib.hid (End.plain (K := K + 12) hM2 hM5 hF2 hA2 B8 R8 s8 hp)
   have HD1 := Lib.hid (fun h4 => End.half (F := F) (K := K + 12) hM2 hM5 hA2 h4 B8 R8 s8 hp (b := w4.heap.size) (by omega))
   clear B8 R8 N8 s8 g8
   cases r8 with
   | false =>
    go_wp2
    obtain ⟨q0, q1, q2, q3⟩ := HD0.out
    exact bodyPost_ret (v := .agg #[.int .i64 ((M : Nat) : Int), .int .i64 ((F : Nat) : Int), .int .i64 ((A : Nat) : Int)]) (by simp [results, Tryd.results34, go_sem, q0, q1, q2]) rfl q3
   | true =>
    by_cases h4 : (M : Int) > 4
    ·go_wp2
     obtain ⟨q0, q1, q2, q3⟩ := HD1.out (by omega)
     exact bodyPost_ret (v := .agg #[.int .i64 ((M : Nat) : Int), .int .i64 ((1 + M / 2 : Nat) : Int), .int .i64 ((A : Nat) : Int)]) (by simp [results, Tryd.results34, go_sem, q0, q1, q2]) rfl q3
    ·go_wp2
     obtain ⟨q0, q1, q2, q3⟩ := HD0.out
     exact bodyPost_ret (v := .agg #[.int .i64 ((M : Nat) : Int), .int .i64 ((F : Nat) : Int), .int .i64 ((A : Nat) : Int)]) (by simp [results, Tryd.results34, go_sem, q0, q1, q2]) rfl q3
end Go.Proofs.YtpjepheiagllgaaDoor.Draw

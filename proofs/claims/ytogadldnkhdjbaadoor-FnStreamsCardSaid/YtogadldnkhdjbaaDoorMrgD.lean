/- What is drawn is valid: one of some numbers, a congruence. -/
import Derived.Test.YtogadldnkhdjbaaDoorSrc
import Derived.Test.YtogadldnkhdjbaaDoorMrgC
import Derived.Deep.RegionHeld3
import Derived.Test.YtogadldnkhdjbaaDoorCycMath
import Derived.Test.YtogadldnkhdjbaaDoorStrCyc
namespace Go.Proofs.YtogadldnkhdjbaaDoor.Draw
open Go.RowKit Go.Proofs.YtogadldnkhdjbaaDoor Go.Proofs.YtogadldnkhdjbaaDoor.Base Go.Proofs.YtogadldnkhdjbaaDoor.Mem Go.Proofs.YtogadldnkhdjbaaDoor.Src Go.Proofs.YtogadldnkhdjbaaDoor.Blk Go.Proofs.YtogadldnkhdjbaaDoor.Pow
set_option linter.unusedVariables false
theorem Src.set' {w : World} {p K : Nat} (h : Src w p K) {a : Addr} (ha : p < a.block) (v : Value) : Src (w.setCell a v) p K := h.kept (grown_setCell w a v) fun g e => by cases e; exact ha
/-- a write into a block that holds no bytes -/
theorem Src.apart {w w' : World} {p q K : Nat} {t : TypeId} {cs : Array Value} (h : Src w p K) (hb : Blk w q t cs) (hcs : ∀ (i : Nat) (n : Int), cs[i]? ≠ some (.int .u8 n)) (hq : q ≠ p) (hg : w.grownBy w' (some q)) : Src w' p K := by
  have hp := h.lt
  obtain ⟨A, c, zs, a, sd, h0, h1, h2, hf, h3, h4, h5, h6, h7, h8⟩ := h.ex
  have hk : ∀ g, g < w.heap.size → g ≠ q → w'.heap[g]? = w.heap[g]? := fun g h1 h2 => hg.block g h1 fun e => h2 (Option.some.inj e)
  have hc : ∀ i, w'.cell? ⟨p, i, none⟩ = w.cell? ⟨p, i, none⟩ := fun i => World.cell?_of_block (a := ⟨p, i, none⟩) (hk p hp (Ne.symm hq))
  refine ⟨A, c, zs, a, sd, (hc 0).trans h0, (hc 1).trans h1, (hc 2).trans h2, fun i => (World.frozen?_of_block (a := ⟨p, i, none⟩) (hk p hp (Ne.symm hq))).trans (hf i), h3, h4, h5, h6, h7, fun hl => ?_⟩
  obtain ⟨b, off, e, hlt, hcell⟩ := h8 hl
  have hbq : b ≠ q := fun e2 => by
    subst e2
    have := hcell 0 hl
    rw [hb.cell] at this
    exact hcs _ _ this
  exact ⟨b, off, e, hlt, fun i hi => (World.cell?_of_block (a := ⟨b, off + i, none⟩) (hk b (by omega) hbq)).trans (hcell i hi)⟩
theorem no8 {a b c : Int} : ∀ (i : Nat) (n : Int), (#[Value.int .i64 a, .int .i64 b, .int .i64 c] : Array Value)[i]? ≠ some (.int .u8 n) := fun i n h => by
  match i with
  | 0 => simp at h
  | 1 => simp at h
  | 2 => simp at h
  | i + 3 => simp at h
theorem Src.put3 {w : World} {p q K : Nat} {t : TypeId} {a b c x y z : Int} (h : Src w p K) (hb : Blk w q t #[.int .i64 a, .int .i64 b, .int .i64 c]) (hq : q ≠ p) : Src (put3 w q (.int .i64 x) (.int .i64 y) (.int .i64 z)) p K :=
  Src.apart (Src.apart (Src.apart h hb no8 hq (grown_setCell w ⟨q, 0, none⟩ _)) (hb.setTo 0 _ rfl) no8 hq (grown_setCell _ ⟨q, 1, none⟩ _)) ((hb.setTo 0 _ rfl).setTo 1 _ rfl) no8 hq (grown_setCell _ ⟨q, 2, none⟩ _)
def AmongRet (p K : Nat) (xs : List Int) (w : World) (e : Ending) (w' : World) : Prop := ∃ r : Nat, e = .returned (.int .i64 (xs.getD r 0)) ∧ r < xs.length ∧ Src w' p K ∧ w.grownBy w' (some p)
set_option maxHeartbeats 1000000 in
set_option maxRecDepth 100000 in
theorem among_any (p K b c : Nat) (xs : List Int) (w : World) (h : Src w p K) (hK : K ≤ 1000000000000) (hb : b ≠ p) (hlt : b < w.heap.size) (hl : 1 ≤ xs.length) (hm : xs.length ≤ 1000000) (hc : ∀ i, i < xs.length → w.cell? ⟨b, i, none⟩ = some (.int .i64 (xs.getD i 0))) :
    Calls Tryd.prog 87 #[.pointer (some ⟨p, 0, none⟩), .slice (some ⟨b, 0, none⟩) xs.length c] w (AmongRet p (K + 2) xs w) := by
  have HP := Lib.hid (pick_any p K xs.length w h hK)
  have HCc := Lib.hid hc
  clear h hc
  go_enter Tryd.func87, Tryd.ntmps87
  go_wp2_with fail
  refine HP.out.mono ?_
  rintro e w1 ⟨r, rfl, hr, s1, g1⟩
  have hr' : r < xs.length := by omega
  have hcell : w1.cell? ⟨b, r, none⟩ = some (.int .i64 (xs.getD r 0)) := (World.cell?_of_block (a := ⟨b, r, none⟩) (g1.block b hlt fun e => hb (Option.some.inj e))).trans (HCc.out r hr')
  have S1 := Lib.hid s1
  have G1 := Lib.hid g1
  clear s1 g1 hr
  have HR : Hid (∀ v, v = xs.getD r 0 → AmongRet p (K + 2) xs w (.returned (.int .i64 v)) w1) := Lib.hid fun v hv => ⟨r, by rw [hv], hr', S1.out, G1.out⟩
  generalize xs.getD r 0 = v at *
  go_wp2
  go_ret
  exact HR.out _ rfl
def CongRet (p K : Nat) (w : World) (e : Ending) (w' : World) : Prop := ∃ m f a : Nat, 2 ≤ m ∧ m ≤ 5000 ∧ f < m ∧ a < m ∧ e = .returned (.agg #[.int .i64 ((m : Nat) : Int), .int .i64 ((f : Nat) : Int), .int .i64 ((a : Nat) : Int)]) ∧ Src w' p K ∧ Beside p w w'
/-- the last store: into the result's cells -/
theorem End.plain {p K m f a : Nat} {w w8 : World} (hm : 2 ≤ m) (hm2 : m ≤ 5000) (hf : f < m) (ha : a < m) (hb : Beside p w w8) (hr : Blk w8 w.heap.size 38 #[.int .i64 0, .int .i64 0, .int .i64 0]) (hs : Src w8 p K) (hp : p < w.heap.size) :
    let w9 := ((w8.setCell ⟨w.heap.size, 0, none⟩ (.int .i64 (m : Int))).setCell ⟨w.heap.size, 1, none⟩ (.int .i64 (f : Int))).setCell ⟨w.heap.size, 2, none⟩ (.int .i64 (a : Int))
    w9.cell? ⟨w.heap.size, 0, none⟩ = some (.int .i64 (m : Int)) ∧ w9.cell? ⟨w.heap.size, 1, none⟩ = some (.int .i64 (f : Int)) ∧ w9.cell? ⟨w.heap.size, 2, none⟩ = some (.int .i64 (a : Int)) ∧ CongRet p K w (.returned (.agg #[.int .i64 ((m : Nat) : Int), .int .i64 ((f : Nat) : Int), .int .i64 ((a : Nat) : Int)])) w9 := by
  have S := hr.set3 (.int .i64 (m : Int)) (.int .i64 (f : Int)) (.int .i64 (a : Int))
  refine ⟨S.at 0 rfl, S.at 1 rfl, S.at 2 rfl, m, f, a, hm, hm2, hf, ha, rfl, ?_, ?_⟩
  · exact Src.set' (Src.set' (Src.set' hs (a := ⟨w.heap.size, 0, none⟩) hp _) (a := ⟨w.heap.size, 1, none⟩) hp _) (a := ⟨w.heap.size, 2, none⟩) hp _
  · exact ((hb.set (a := ⟨w.heap.size, 0, none⟩) (Nat.le_refl _) _).set (a := ⟨w.heap.size, 1, none⟩) (Nat.le_refl _) _).set (a := ⟨w.heap.size, 2, none⟩) (Nat.le_refl _) _
theorem End.half {p K m F a b : Nat} {w w8 : World} (hm : 2 ≤ m) (hm2 : m ≤ 5000) (ha : a < m) (h4 : 4 < m) (hb : Beside p w w8) (hr : Blk w8 w.heap.size 38 #[.int .i64 0, .int .i64 0, .int .i64 0]) (hs : Src w8 p K) (hp : p < w.heap.size) (hbb : w.heap.size < b) :
    let w9 := (((w8.setCell ⟨b, 1, none⟩ (.int .i64 (1 + (m : Int) / 2))).setCell ⟨w.heap.size, 0, none⟩ (.int .i64 (m : Int))).setCell ⟨w.heap.size, 1, none⟩ (.int .i64 (1 + (m : Int) / 2))).setCell ⟨w.heap.size, 2, none⟩ (.int .i64 (a : Int))
    w9.cell? ⟨w.heap.size, 0, none⟩ = some (.int .i64 (m : Int)) ∧ w9.cell? ⟨w.heap.size, 1, none⟩ = some (.int .i64 ((1 + m / 2 : Nat) : Int)) ∧ w9.cell? ⟨w.heap.size, 2, none⟩ = some (.int .i64 (a : Int)) ∧ CongRet p K w (.returned (.agg #[.int .i64 ((m : Nat) : Int), .int .i64 ((1 + m / 2 : Nat) : Int), .int .i64 ((a : Nat) : Int)])) w9 := by
  have e : (1 : Int) + (m : Int) / 2 = ((1 + m / 2 : Nat) : Int) := by simp
  rw [e]
  exact End.plain (f := 1 + m / 2) hm hm2 (by omega) ha (hb.set (a := ⟨b, 1, none⟩) (Nat.le_of_lt hbb) _) (hr.other (a := ⟨b, 1, none⟩) _ (by show b ≠ w.heap.size; omega)) (Src.set' hs (a := ⟨b, 1, none⟩) (by show p < b; omega) _) hp
theorem lits_cell {W : World} {b : Nat} {xs : List Int} (h : Blk W b 2 (ints xs).toArray) : ∀ i, i < xs.length → W.cell? ⟨b, i, none⟩ = some (.int .i64 (xs.getD i 0)) := fun i hi => by
  rw [h.cell i, List.getElem?_toArray, ints_get xs i hi]
set_option maxHeartbeats 1000000 in
set_option maxRecDepth 100000 in
theorem l03DrawOk_any (p K : Nat) (w : World) (h : Src w p K) (hK : K ≤ 100000000000) :
    Calls Tryd.prog 62 #[.pointer (some ⟨p, 0, none⟩)] w (CongRet p (K + 12) w) := by
  have hp := h.lt
  obtain ⟨W0, hW0⟩ : ∃ W0, W0 = w.alloc (.cells #[.int .i64 0, .int .i64 0, .int .i64 0] 38) := ⟨_, rfl⟩
  have B0 : Beside p w W0 := by rw [hW0]; exact (Beside.refl p w).alloc _
  have R0 : Blk W0 w.heap.size 38 #[.int .i64 0, .int .i64 0, .int .i64 0] := by rw [hW0]; exact Blk.new _ _ _
  have S0 : Src W0 p K := by rw [hW0]; exact h.below ((Below.refl _ _).alloc (Nat.le_refl _) _)
  have HW := Lib.hid hW0
  have HB0 := Lib.hid B0
  have HR0 := Lib.hid R0
  have HP := Lib.hid (pick_any p K 60 W0 S0 (by omega))
  clear hW0 B0 R0 S0 h
  go_enter Tryd.func62, Tryd.ntmps62
  go_wp2_with fail
  rw [← HW.out]
  refine HP.out.mono ?_
  rintro e w1 ⟨r1, rfl, hr1, s1, g1⟩
  have B1 := Lib.hid (HB0.out.trans (Beside.grown g1))
  have R1 := Lib.hid (HR0.out.src g1 (by omega))
  have HP2 := Lib.hid (pick_any p (K + 2) 8 w1 s1 (by omega))
  clear s1 g1
  go_wp2_with fail
  refine HP2.out.mono ?_
  rintro e w2 ⟨r2, rfl, hr2, s2, g2⟩
  have B2 := Lib.hid (B1.out.trans (Beside.grown g2))
  have R2 := Lib.hid (R1.out.src g2 (by omega))
  have S2 := Lib.hid s2
  clear s2 g2 B1 R1 HB0 HR0
  by_cases h0 : r2 = 0
  · subst h0
    have HP3 := Lib.hid (pick_any p (K + 4) 4000 w2 S2.out (by omega))
    go_wp2_with fail
    refine HP3.out.mono ?_
    rintro e w3 ⟨r3, rfl, hr3, s3, g3⟩
    obtain ⟨M, hM⟩ : ∃ M : Nat, (2 : Int) + (r3 : Int) = (M : Int) := ⟨2 + r3, by simp⟩
    have hM2 : 2 ≤ M := by omega
    have hM5 : M ≤ 5000 := by omega
    have S3 := Lib.hid s3
    have B3 := Lib.hid (B2.out.trans (Beside.grown g3))
    have R3 := Lib.hid (R2.out.src g3 (by omega))
    clear s3 g3 hr3 hr1 hr2
    have HP4 := Lib.hid (pick_any p (K + 6) M w3 S3.out (by omega))
    go_wp2_with fail
    refine HP4.out.mono ?_
    rintro e w4 ⟨F, rfl, hF, s4, g4⟩
    have hF2 : F < M := by omega
    have B4 := B3.out.trans (Beside.grown g4)
    have R4 := R3.out.src g4 (by omega)
    have hz4 := R4.lt
    have hp4 : p < w4.heap.size := by omega
    obtain ⟨W4, hW4⟩ : ∃ W4, W4 = w4.alloc (.cells #[.int .i64 (M : Int), .int .i64 (F : Int), .int .i64 0] 38) := ⟨_, rfl⟩
    have B5 : Beside p w W4 := by rw [hW4]; exact B4.alloc _
    have R5 : Blk W4 w.heap.size 38 #[.int .i64 0, .int .i64 0, .int .i64 0] := by rw [hW4]; exact R4.alloc _
    have S5 : Src W4 p (K + 8) := by rw [hW4]; exact s4.below ((Below.refl _ _).alloc (Nat.le_refl _) _)
    have N5 : Blk W4 w4.heap.size 38 #[.int .i64 (M : Int), .int .i64 (F : Int), .int .i64 0] := by rw [hW4]; exact Blk.new _ _ _
    have HW4 := Lib.hid hW4
    have HP5 := Lib.hid (pick_any p (K + 8) M W4 S5 (by omega))
    have HB5 := Lib.hid B5
    have HR5 := Lib.hid R5
    have HN5 := Lib.hid N5
    clear s4 g4 B4 R4 hW4 B5 R5 S5 N5 hF
    go_wp2_with fail
    rw [← HW4.out]
    refine HP5.out.mono ?_
    rintro e w6 ⟨A, rfl, hA, s6, g6⟩
    have hA2 : A < M := by omega
    have B6 := HB5.out.trans (Beside.grown g6)
    have R6 := HR5.out.src g6 (by omega)
    have N6 := HN5.out.src g6 (by omega)
    have n60 := N6.at 0 (v := .int .i64 (M : Int)) rfl
    have n61 := N6.at 1 (v := .int .i64 (F : Int)) rfl
    have n62 := N6.at 2 (v := .int .i64 0) rfl
    have f60 := N6.frz 0
    have f61 := N6.frz 1
    have f62 := N6.frz 2
    obtain ⟨w7, hw7⟩ : ∃ w7, w7 = w6.setCell ⟨w4.heap.size, 2, none⟩ (.int .i64 (A : Int)) := ⟨_, rfl⟩
    have B7 : Beside p w w7 := by rw [hw7]; exact B6.set (by show w.heap.size ≤ w4.heap.size; omega) _
    have R7 : Blk w7 w.heap.size 38 #[.int .i64 0, .int .i64 0, .int .i64 0] := by rw [hw7]; exact R6.other _ (by show w4.heap.size ≠ w.heap.size; omega)
    have N7 : Blk w7 w4.heap.size 38 #[.int .i64 ((M : Nat) : Int), .int .i64 ((F : Nat) : Int), .int .i64 ((A : Nat) : Int)] := by rw [hw7]; exact N6.setTo 2 _ rfl
    have S7 : Src w7 p (K + 10) := by rw [hw7]; exact Src.set' s6 (by show p < w4.heap.size; omega) _
    have HW7 := Lib.hid hw7
    have HP7 := Lib.hid (one_any p (K + 10) 4 w7 S7 (by omega))
    have HB7 := Lib.hid B7
    have HR7 := Lib.hid R7
    have HN7 := Lib.hid N7
    clear s6 g6 B6 R6 N6 hw7 B7 R7 S7 N7 hA
    go_wp2_with fail
    rw [← HW7.out]
    refine HP7.out.mono ?_
    rintro e w8 ⟨r8, rfl, s8, g8⟩
    clear n60 n61 n62 f60 f61 f62
    have B8 := HB7.out.trans (Beside.grown g8)
    have R8 := HR7.out.src g8 (by omega)
    have N8 := HN7.out.src g8 (by omega)
    have r80 := R8.at 0 (v := .int .i64 0) rfl
    have r81 := R8.at 1 (v := .int .i64 0) rfl
    have r82 := R8.at 2 (v := .int .i64 0) rfl
    have f80 := R8.frz 0
    have f81 := R8.frz 1
    have f82 := R8.frz 2
    have n80 := N8.at 0 (v := .int .i64 (M : Int)) rfl
    have n81 := N8.at 1 (v := .int .i64 (F : Int)) rfl
    have n82 := N8.at 2 (v := .int .i64 (A : Int)) rfl
    have h80 := N8.frz 0
    have h81 := N8.frz 1
    have h82 := N8.frz 2
    have hne : w4.heap.size ≠ w.heap.size := by omega
    have hne2 : w.heap.size ≠ w4.heap.size := by omega
    have HD0 := Lib.hid (End.plain (K := K + 12) hM2 hM5 hF2 hA2 B8 R8 s8 hp)
    have HD1 := Lib.hid (fun h4 => End.half (F := F) (K := K + 12) hM2 hM5 hA2 h4 B8 R8 s8 hp (b := w4.heap.size) (by omega))
    clear B8 R8 N8 s8 g8
    cases r8 with
    | false =>
      go_wp2
      obtain ⟨q0, q1, q2, q3⟩ := HD0.out
      exact bodyPost_ret (v := .agg #[.int .i64 ((M : Nat) : Int), .int .i64 ((F : Nat) : Int), .int .i64 ((A : Nat) : Int)]) (by simp [results, Tryd.results62, go_sem, q0, q1, q2]) rfl q3
    | true =>
      by_cases h4 : (M : Int) > 4
      · go_wp2
        obtain ⟨q0, q1, q2, q3⟩ := HD1.out (by omega)
        exact bodyPost_ret (v := .agg #[.int .i64 ((M : Nat) : Int), .int .i64 ((1 + M / 2 : Nat) : Int), .int .i64 ((A : Nat) : Int)]) (by simp [results, Tryd.results62, go_sem, q0, q1, q2]) rfl q3
      · go_wp2
        obtain ⟨q0, q1, q2, q3⟩ := HD0.out
        exact bodyPost_ret (v := .agg #[.int .i64 ((M : Nat) : Int), .int .i64 ((F : Nat) : Int), .int .i64 ((A : Nat) : Int)]) (by simp [results, Tryd.results62, go_sem, q0, q1, q2]) rfl q3
  · by_cases h1 : r2 = 1
    · subst h1
      obtain ⟨W2, hW2⟩ : ∃ W2, W2 = w2.alloc (.cells #[.int .i64 16, .int .i64 64, .int .i64 256, .int .i64 100, .int .i64 81, .int .i64 31, .int .i64 127] 2) := ⟨_, rfl⟩
      have hz2 := R2.out.lt
      have S2' : Src W2 p (K + 4) := by rw [hW2]; exact S2.out.below ((Below.refl _ _).alloc (Nat.le_refl _) _)
      have hcs : ∀ i, i < [16, 64, 256, 100, 81, 31, 127].length → W2.cell? ⟨w2.heap.size, i, none⟩ = some (.int .i64 (([16, 64, 256, 100, 81, 31, 127] : List Int).getD i 0)) := by
        rw [hW2]; exact lits_cell (xs := [16, 64, 256, 100, 81, 31, 127]) (Blk.new w2 2 _)
      have HP3 := Lib.hid (among_any p (K + 4) w2.heap.size 7 [16, 64, 256, 100, 81, 31, 127] W2 S2' (by omega) (by omega) (by rw [hW2]; simp) (by decide) (by decide) hcs)
      have BW2 := Lib.hid (show Beside p w W2 by rw [hW2]; exact B2.out.alloc _)
      have RW2 := Lib.hid (show Blk W2 w.heap.size 38 #[.int .i64 0, .int .i64 0, .int .i64 0] by rw [hW2]; exact R2.out.alloc _)
      have HW2 := Lib.hid hW2
      clear hW2 S2' hcs
      go_wp2_with fail
      rw [← HW2.out]
      refine HP3.out.mono ?_
      rintro e w3 ⟨r3, rfl, hr3, s3, g3⟩
      have hv : ∀ r, r < 7 → 2 ≤ ([16, 64, 256, 100, 81, 31, 127] : List Int).getD r 0 ∧ ([16, 64, 256, 100, 81, 31, 127] : List Int).getD r 0 ≤ 5000 := by decide
      obtain ⟨hv1, hv2⟩ := hv r3 hr3
      generalize ([16, 64, 256, 100, 81, 31, 127] : List Int).getD r3 0 = v at *
      obtain ⟨M, rfl⟩ := Int.eq_ofNat_of_zero_le (show 0 ≤ v by omega)
      have hM2 : 2 ≤ M := by omega
      have hM5 : M ≤ 5000 := by omega
      have S3 := Lib.hid s3
      have B3 := Lib.hid (BW2.out.trans (Beside.grown g3))
      have R3 := Lib.hid (RW2.out.src g3 (by omega))
      clear s3 g3 hr3 hr1 hr2 hv hv1 hv2
      have HP4 := Lib.hid (pick_any p (K + 6) M w3 S3.out (by omega))
      go_wp2_with fail
      refine HP4.out.mono ?_
      rintro e w4 ⟨F, rfl, hF, s4, g4⟩
      have hF2 : F < M := by omega
      have B4 := B3.out.trans (Beside.grown g4)
      have R4 := R3.out.src g4 (by omega)
      have hz4 := R4.lt
      have hp4 : p < w4.heap.size := by omega
      obtain ⟨W4, hW4⟩ : ∃ W4, W4 = w4.alloc (.cells #[.int .i64 (M : Int), .int .i64 (F : Int), .int .i64 0] 38) := ⟨_, rfl⟩
      have B5 : Beside p w W4 := by rw [hW4]; exact B4.alloc _
      have R5 : Blk W4 w.heap.size 38 #[.int .i64 0, .int .i64 0, .int .i64 0] := by rw [hW4]; exact R4.alloc _
      have S5 : Src W4 p (K + 8) := by rw [hW4]; exact s4.below ((Below.refl _ _).alloc (Nat.le_refl _) _)
      have N5 : Blk W4 w4.heap.size 38 #[.int .i64 (M : Int), .int .i64 (F : Int), .int .i64 0] := by rw [hW4]; exact Blk.new _ _ _
      have HW4 := Lib.hid hW4
      have HP5 := Lib.hid (pick_any p (K + 8) M W4 S5 (by omega))
      have HB5 := Lib.hid B5
      have HR5 := Lib.hid R5
      have HN5 := Lib.hid N5
      clear s4 g4 B4 R4 hW4 B5 R5 S5 N5 hF
      go_wp2_with fail
      rw [← HW4.out]
      refine HP5.out.mono ?_
      rintro e w6 ⟨A, rfl, hA, s6, g6⟩
      have hA2 : A < M := by omega
      have B6 := HB5.out.trans (Beside.grown g6)
      have R6 := HR5.out.src g6 (by omega)
      have N6 := HN5.out.src g6 (by omega)
      have n60 := N6.at 0 (v := .int .i64 (M : Int)) rfl
      have n61 := N6.at 1 (v := .int .i64 (F : Int)) rfl
      have n62 := N6.at 2 (v := .int .i64 0) rfl
      have f60 := N6.frz 0
      have f61 := N6.frz 1
      have f62 := N6.frz 2
      obtain ⟨w7, hw7⟩ : ∃ w7, w7 = w6.setCell ⟨w4.heap.size, 2, none⟩ (.int .i64 (A : Int)) := ⟨_, rfl⟩
      have B7 : Beside p w w7 := by rw [hw7]; exact B6.set (by show w.heap.size ≤ w4.heap.size; omega) _
      have R7 : Blk w7 w.heap.size 38 #[.int .i64 0, .int .i64 0, .int .i64 0] := by rw [hw7]; exact R6.other _ (by show w4.heap.size ≠ w.heap.size; omega)
      have N7 : Blk w7 w4.heap.size 38 #[.int .i64 ((M : Nat) : Int), .int .i64 ((F : Nat) : Int), .int .i64 ((A : Nat) : Int)] := by rw [hw7]; exact N6.setTo 2 _ rfl
      have S7 : Src w7 p (K + 10) := by rw [hw7]; exact Src.set' s6 (by show p < w4.heap.size; omega) _
      have HW7 := Lib.hid hw7
      have HP7 := Lib.hid (one_any p (K + 10) 4 w7 S7 (by omega))
      have HB7 := Lib.hid B7
      have HR7 := Lib.hid R7
      have HN7 := Lib.hid N7
      clear s6 g6 B6 R6 N6 hw7 B7 R7 S7 N7 hA
      go_wp2_with fail
      rw [← HW7.out]
      refine HP7.out.mono ?_
      rintro e w8 ⟨r8, rfl, s8, g8⟩
      clear n60 n61 n62 f60 f61 f62
      have B8 := HB7.out.trans (Beside.grown g8)
      have R8 := HR7.out.src g8 (by omega)
      have N8 := HN7.out.src g8 (by omega)
      have r80 := R8.at 0 (v := .int .i64 0) rfl
      have r81 := R8.at 1 (v := .int .i64 0) rfl
      have r82 := R8.at 2 (v := .int .i64 0) rfl
      have f80 := R8.frz 0
      have f81 := R8.frz 1
      have f82 := R8.frz 2
      have n80 := N8.at 0 (v := .int .i64 (M : Int)) rfl
      have n81 := N8.at 1 (v := .int .i64 (F : Int)) rfl
      have n82 := N8.at 2 (v := .int .i64 (A : Int)) rfl
      have h80 := N8.frz 0
      have h81 := N8.frz 1
      have h82 := N8.frz 2
      have hne : w4.heap.size ≠ w.heap.size := by omega
      have hne2 : w.heap.size ≠ w4.heap.size := by omega
      have HD0 := Lib.hid (End.plain (K := K + 12) hM2 hM5 hF2 hA2 B8 R8 s8 hp)
      have HD1 := Lib.hid (fun h4 => End.half (F := F) (K := K + 12) hM2 hM5 hA2 h4 B8 R8 s8 hp (b := w4.heap.size) (by omega))
      clear B8 R8 N8 s8 g8
      cases r8 with
      | false =>
        go_wp2
        obtain ⟨q0, q1, q2, q3⟩ := HD0.out
        exact bodyPost_ret (v := .agg #[.int .i64 ((M : Nat) : Int), .int .i64 ((F : Nat) : Int), .int .i64 ((A : Nat) : Int)]) (by simp [results, Tryd.results62, go_sem, q0, q1, q2]) rfl q3
      | true =>
        by_cases h4 : (M : Int) > 4
        · go_wp2
          obtain ⟨q0, q1, q2, q3⟩ := HD1.out (by omega)
          exact bodyPost_ret (v := .agg #[.int .i64 ((M : Nat) : Int), .int .i64 ((1 + M / 2 : Nat) : Int), .int .i64 ((A : Nat) : Int)]) (by simp [results, Tryd.results62, go_sem, q0, q1, q2]) rfl q3
        · go_wp2
          obtain ⟨q0, q1, q2, q3⟩ := HD0.out
          exact bodyPost_ret (v := .agg #[.int .i64 ((M : Nat) : Int), .int .i64 ((F : Nat) : Int), .int .i64 ((A : Nat) : Int)]) (by simp [results, Tryd.results62, go_sem, q0, q1, q2]) rfl q3
    · obtain ⟨M, hM⟩ : ∃ M : Nat, (2 : Int) + (r1 : Int) = (M : Int) := ⟨2 + r1, by simp⟩
      have hM2 : 2 ≤ M := by omega
      have hM5 : M ≤ 5000 := by omega
      have h0' : ((r2 : Int) == 0) = false := by simp; omega
      have h1' : ((r2 : Int) == 1) = false := by simp; omega
      have S3 := Lib.hid (S2.out.more (L := K + 6) (by omega))
      have B3 := B2
      have R3 := R2
      clear hr1 hr2 h0 h1
      have HP4 := Lib.hid (pick_any p (K + 6) M w2 S3.out (by omega))
      go_wp2_with fail
      refine HP4.out.mono ?_
      rintro e w4 ⟨F, rfl, hF, s4, g4⟩
      have hF2 : F < M := by omega
      have B4 := B3.out.trans (Beside.grown g4)
      have R4 := R3.out.src g4 (by omega)
      have hz4 := R4.lt
      have hp4 : p < w4.heap.size := by omega
      obtain ⟨W4, hW4⟩ : ∃ W4, W4 = w4.alloc (.cells #[.int .i64 (M : Int), .int .i64 (F : Int), .int .i64 0] 38) := ⟨_, rfl⟩
      have B5 : Beside p w W4 := by rw [hW4]; exact B4.alloc _
      have R5 : Blk W4 w.heap.size 38 #[.int .i64 0, .int .i64 0, .int .i64 0] := by rw [hW4]; exact R4.alloc _
      have S5 : Src W4 p (K + 8) := by rw [hW4]; exact s4.below ((Below.refl _ _).alloc (Nat.le_refl _) _)
      have N5 : Blk W4 w4.heap.size 38 #[.int .i64 (M : Int), .int .i64 (F : Int), .int .i64 0] := by rw [hW4]; exact Blk.new _ _ _
      have HW4 := Lib.hid hW4
      have HP5 := Lib.hid (pick_any p (K + 8) M W4 S5 (by omega))
      have HB5 := Lib.hid B5
      have HR5 := Lib.hid R5
      have HN5 := Lib.hid N5
      clear s4 g4 B4 R4 hW4 B5 R5 S5 N5 hF
      go_wp2_with fail
      rw [← HW4.out]
      refine HP5.out.mono ?_
      rintro e w6 ⟨A, rfl, hA, s6, g6⟩
      have hA2 : A < M := by omega
      have B6 := HB5.out.trans (Beside.grown g6)
      have R6 := HR5.out.src g6 (by omega)
      have N6 := HN5.out.src g6 (by omega)
      have n60 := N6.at 0 (v := .int .i64 (M : Int)) rfl
      have n61 := N6.at 1 (v := .int .i64 (F : Int)) rfl
      have n62 := N6.at 2 (v := .int .i64 0) rfl
      have f60 := N6.frz 0
      have f61 := N6.frz 1
      have f62 := N6.frz 2
      obtain ⟨w7, hw7⟩ : ∃ w7, w7 = w6.setCell ⟨w4.heap.size, 2, none⟩ (.int .i64 (A : Int)) := ⟨_, rfl⟩
      have B7 : Beside p w w7 := by rw [hw7]; exact B6.set (by show w.heap.size ≤ w4.heap.size; omega) _
      have R7 : Blk w7 w.heap.size 38 #[.int .i64 0, .int .i64 0, .int .i64 0] := by rw [hw7]; exact R6.other _ (by show w4.heap.size ≠ w.heap.size; omega)
      have N7 : Blk w7 w4.heap.size 38 #[.int .i64 ((M : Nat) : Int), .int .i64 ((F : Nat) : Int), .int .i64 ((A : Nat) : Int)] := by rw [hw7]; exact N6.setTo 2 _ rfl
      have S7 : Src w7 p (K + 10) := by rw [hw7]; exact Src.set' s6 (by show p < w4.heap.size; omega) _
      have HW7 := Lib.hid hw7
      have HP7 := Lib.hid (one_any p (K + 10) 4 w7 S7 (by omega))
      have HB7 := Lib.hid B7
      have HR7 := Lib.hid R7
      have HN7 := Lib.hid N7
      clear s6 g6 B6 R6 N6 hw7 B7 R7 S7 N7 hA
      go_wp2_with fail
      rw [← HW7.out]
      refine HP7.out.mono ?_
      rintro e w8 ⟨r8, rfl, s8, g8⟩
      clear n60 n61 n62 f60 f61 f62
      have B8 := HB7.out.trans (Beside.grown g8)
      have R8 := HR7.out.src g8 (by omega)
      have N8 := HN7.out.src g8 (by omega)
      have r80 := R8.at 0 (v := .int .i64 0) rfl
      have r81 := R8.at 1 (v := .int .i64 0) rfl
      have r82 := R8.at 2 (v := .int .i64 0) rfl
      have f80 := R8.frz 0
      have f81 := R8.frz 1
      have f82 := R8.frz 2
      have n80 := N8.at 0 (v := .int .i64 (M : Int)) rfl
      have n81 := N8.at 1 (v := .int .i64 (F : Int)) rfl
      have n82 := N8.at 2 (v := .int .i64 (A : Int)) rfl
      have h80 := N8.frz 0
      have h81 := N8.frz 1
      have h82 := N8.frz 2
      have hne : w4.heap.size ≠ w.heap.size := by omega
      have hne2 : w.heap.size ≠ w4.heap.size := by omega
      have HD0 := Lib.hid (End.plain (K := K + 12) hM2 hM5 hF2 hA2 B8 R8 s8 hp)
      have HD1 := Lib.hid (fun h4 => End.half (F := F) (K := K + 12) hM2 hM5 hA2 h4 B8 R8 s8 hp (b := w4.heap.size) (by omega))
      clear B8 R8 N8 s8 g8
      cases r8 with
      | false =>
        go_wp2
        obtain ⟨q0, q1, q2, q3⟩ := HD0.out
        exact bodyPost_ret (v := .agg #[.int .i64 ((M : Nat) : Int), .int .i64 ((F : Nat) : Int), .int .i64 ((A : Nat) : Int)]) (by simp [results, Tryd.results62, go_sem, q0, q1, q2]) rfl q3
      | true =>
        by_cases h4 : (M : Int) > 4
        · go_wp2
          obtain ⟨q0, q1, q2, q3⟩ := HD1.out (by omega)
          exact bodyPost_ret (v := .agg #[.int .i64 ((M : Nat) : Int), .int .i64 ((1 + M / 2 : Nat) : Int), .int .i64 ((A : Nat) : Int)]) (by simp [results, Tryd.results62, go_sem, q0, q1, q2]) rfl q3
        · go_wp2
          obtain ⟨q0, q1, q2, q3⟩ := HD0.out
          exact bodyPost_ret (v := .agg #[.int .i64 ((M : Nat) : Int), .int .i64 ((F : Nat) : Int), .int .i64 ((A : Nat) : Int)]) (by simp [results, Tryd.results62, go_sem, q0, q1, q2]) rfl q3
end Go.Proofs.YtogadldnkhdjbaaDoor.Draw
/- A congruence and a state, drawn by bytes. -/
namespace Go.Proofs.YtogadldnkhdjbaaDoor.Draw
open Go.RowKit Go.Proofs.YtogadldnkhdjbaaDoor Go.Proofs.YtogadldnkhdjbaaDoor.Base Go.Proofs.YtogadldnkhdjbaaDoor.Mem Go.Proofs.YtogadldnkhdjbaaDoor.Src Go.Proofs.YtogadldnkhdjbaaDoor.Blk Go.Proofs.YtogadldnkhdjbaaDoor.Pow
set_option linter.unusedVariables false
/-- a choice leaves a block beside the source as it was -/
theorem src_keeps {p b : Nat} {w w6 : World} {t : TypeId} {cs : Array Value} (h : Blk w b t cs) (g : w.grownBy w6 (some p)) (hne : b ≠ p) : Blk w6 b t cs := h.src g hne
theorem keepsA {p H b : Nat} {w0 w w6 : World} {m f a : Nat} {u0 u1 u2 : Value} (hH : w0.heap.size = H) (hb : Below H w0 w) (hr : Blk w H 38 #[u0, u1, u2]) (hn : Blk w b 38 #[.int .i64 ((m : Nat) : Int), .int .i64 ((f : Nat) : Int), .int .i64 ((a : Nat) : Int)]) (g : w.grownBy w6 (some p)) (h1 : H < p) (h2 : b ≠ p) :
    w6.cell? ⟨b, 0, none⟩ = some (.int .i64 (m : Int)) ∧ w6.cell? ⟨b, 1, none⟩ = some (.int .i64 (f : Int)) ∧ w6.cell? ⟨b, 2, none⟩ = some (.int .i64 (a : Int)) ∧
    w6.cell? ⟨H, 0, none⟩ = some u0 ∧ w6.cell? ⟨H, 1, none⟩ = some u1 ∧ w6.cell? ⟨H, 2, none⟩ = some u2 ∧ w6.frozen? ⟨H, 0, none⟩ = false ∧ w6.frozen? ⟨H, 1, none⟩ = false ∧ w6.frozen? ⟨H, 2, none⟩ = false ∧ Hid (Below H w0 w6) ∧ Hid (Blk w6 H 38 #[u0, u1, u2]) := by
  have n := hn.src g h2
  have r := hr.src g (by omega)
  exact ⟨n.at 0 rfl, n.at 1 rfl, n.at 2 rfl, r.at 0 rfl, r.at 1 rfl, r.at 2 rfl, r.frz 0, r.frz 1, r.frz 2, Lib.hid (hb.trans (grown_below g (fun q e => by cases e; omega) (by have := hb.size; omega))), Lib.hid r⟩
theorem off3 {w : World} {b q i : Nat} {v x y z : Value} (h : w.cell? ⟨b, i, none⟩ = some v) (hne : q ≠ b) : (((w.setCell ⟨q, 0, none⟩ x).setCell ⟨q, 1, none⟩ y).setCell ⟨q, 2, none⟩ z).cell? ⟨b, i, none⟩ = some v := by
  have hn : ∀ j, (⟨q, j, none⟩ : Addr) ≠ ⟨b, i, none⟩ := fun j e => hne (congrArg Addr.block e)
  rw [World.cell?_setCell_other _ _ _ _ (hn 2), World.cell?_setCell_other _ _ _ _ (hn 1), World.cell?_setCell_other _ _ _ _ (hn 0)]
  exact h
def B10C (w : World) (e : Ending) (w' : World) : Prop := ∃ m f a x : Nat, 2 ≤ m ∧ m ≤ 5000 ∧ f < m ∧ a < m ∧ x < m ∧ e = .returned (.tuple #[.agg #[.int .i64 ((m : Nat) : Int), .int .i64 ((f : Nat) : Int), .int .i64 ((a : Nat) : Int)], .int .i64 (x : Int)]) ∧ Below w.heap.size w w'
end Go.Proofs.YtogadldnkhdjbaaDoor.Draw
/- Plain mathematics of the period of x -> (f x + a) mod m (Hull, Dobell). No program in sight. -/
set_option linter.unusedVariables false
namespace Go.Proofs.YtogadldnkhdjbaaDoor.Hd
open Go.Proofs.YtogadldnkhdjbaaDoor.CycM

def S (f : Nat) : Nat → Nat
  | 0 => 0
  | n + 1 => f * S f n + 1
theorem iter_S (m f a n : Nat) : iter (fun x => (f * x + a) % m) 0 n = (a * S f n) % m := by
  induction n with
  | zero => simp [iter, S]
  | succ n ih =>
    show (f * iter _ 0 n + a) % m = _
    rw [ih, S, Nat.add_mod, Nat.mul_mod, Nat.mod_mod, ← Nat.mul_mod, ← Nat.add_mod]
    congr 1
    grind
theorem S_add (f n k : Nat) : S f (n + k) = f ^ k * S f n + S f k := by
  induction k with
  | zero => simp [S]
  | succ k ih => rw [← Nat.add_assoc, S, ih, S, Nat.pow_succ]; grind
theorem S_mul (f p n : Nat) : S f (p * n) = S f p * S (f ^ p) n := by
  induction n with
  | zero => simp [S]
  | succ n ih => rw [Nat.mul_succ, S_add, ih, S]; grind
theorem S_one {f q t : Nat} (h : f = 1 + q * t) (n : Nat) : ∃ k, S f n = n + q * k := by
  induction n with
  | zero => exact ⟨0, by simp [S]⟩
  | succ n ih =>
    obtain ⟨k, hk⟩ := ih
    refine ⟨k + t * (n + q * k), ?_⟩
    rw [S, hk, h]; grind
theorem S_two {f p t : Nat} (h : f = 1 + p * t) (n : Nat) : ∃ z : Int, 2 * (S f n : Int) = 2 * n + p * t * (n * n - n) + p * p * z := by
  induction n with
  | zero => exact ⟨0, by simp [S]⟩
  | succ n ih =>
    obtain ⟨z, hz⟩ := ih
    refine ⟨z + t * t * (n * n - n) + p * t * z, ?_⟩
    have e : ((S f (n + 1) : Nat) : Int) = (1 + p * t) * (S f n : Int) + 1 := by rw [S, h]; simp
    rw [e]
    have e2 : ((n + 1 : Nat) : Int) = (n : Int) + 1 := by simp
    rw [e2]
    grind

/-! ### Primes -/
def Pr (p : Nat) : Prop := 2 ≤ p ∧ ∀ d, d ∣ p → d = 1 ∨ d = p
theorem Pr.exists : ∀ (m : Nat), 2 ≤ m → ∃ p, Pr p ∧ p ∣ m := by
  intro m
  induction m using Nat.strongRecOn with
  | _ m ih =>
    intro hm
    by_cases h : ∀ d, d ∣ m → d = 1 ∨ d = m
    · exact ⟨m, ⟨hm, h⟩, Nat.dvd_refl m⟩
    · have ⟨d, hd⟩ : ∃ d, ¬ (d ∣ m → d = 1 ∨ d = m) := Classical.not_forall.1 h
      have hdm : d ∣ m := Classical.not_not.1 fun h2 => hd fun h3 => absurd h3 h2
      have hd2 : d ≠ 1 ∧ d ≠ m := ⟨fun e => hd fun _ => .inl e, fun e => hd fun _ => .inr e⟩
      have hle := Nat.le_of_dvd (by omega) hdm
      have h0 : d ≠ 0 := fun e => by subst e; have := Nat.eq_zero_of_zero_dvd hdm; omega
      obtain ⟨p, hp, hpd⟩ := ih d (by omega) (by omega)
      exact ⟨p, hp, Nat.dvd_trans hpd hdm⟩
theorem Pr.cop {p a : Nat} (hp : Pr p) (h : ¬ p ∣ a) : Nat.Coprime p a := by
  rcases hp.2 _ (Nat.gcd_dvd_left p a) with h1 | h1
  · exact h1
  · exact absurd (h1 ▸ Nat.gcd_dvd_right p a) h
theorem Pr.mul {p a b : Nat} (hp : Pr p) (h : p ∣ a * b) : p ∣ a ∨ p ∣ b := by
  by_cases ha : p ∣ a
  · exact .inl ha
  · exact .inr ((hp.cop ha).dvd_of_dvd_mul_left h)
theorem Pr.pow {p a n : Nat} (hp : Pr p) (h : p ∣ a ^ n) : p ∣ a := by
  induction n with
  | zero =>
    have := Nat.le_of_dvd (by simp) h
    have := hp.1
    simp at *; omega
  | succ n ih =>
    rw [Nat.pow_succ] at h
    rcases hp.mul h with h1 | h1
    · exact ih h1
    · exact h1
theorem cop_of {m u : Nat} (hm : 1 ≤ m) (h : ∀ q, Pr q → q ∣ m → ¬ q ∣ u) : Nat.Coprime m u := by
  have hg : 0 < Nat.gcd m u := Nat.gcd_pos_of_pos_left _ hm
  rcases Nat.lt_or_ge (Nat.gcd m u) 2 with h2 | h2
  · show Nat.gcd m u = 1; omega
  · obtain ⟨q, hq, hqd⟩ := Pr.exists _ h2
    exact absurd (Nat.dvd_trans hqd (Nat.gcd_dvd_right m u)) (h q hq (Nat.dvd_trans hqd (Nat.gcd_dvd_left m u)))
theorem mod_one {f p : Nat} (h : f % p = 1) : ∃ t, f = 1 + p * t := ⟨f / p, by have := Nat.mod_add_div f p; omega⟩

/-! ### Conditions: the way to them, and from them -/
def Cond (m f : Nat) : Prop := (∀ p, Pr p → p ∣ m → f % p = 1) ∧ (4 ∣ m → f % 4 = 1)
theorem pow_mod_one {f p : Nat} (h : f % p = 1) (n : Nat) (hp : 2 ≤ p) : f ^ n % p = 1 := by
  rw [Nat.pow_mod, h, Nat.one_pow, Nat.mod_eq_of_lt (by omega)]
theorem unit_of {m p f u m' : Nat} (hp : Pr p) (hm : m = p * m') (hm0 : 1 ≤ m) (hc : Cond m f) (hu : S f p = p * u) : Nat.Coprime m' u := by
  have hp2 := hp.1
  have hm1 : 1 ≤ m' := by
    rcases Nat.eq_zero_or_pos m' with h | h
    · subst h; simp at hm; omega
    · exact h
  refine cop_of hm1 fun q hq hqm hqu => ?_
  have hq2 := hq.1
  have hqm' : q ∣ m := hm ▸ Nat.dvd_trans hqm (Nat.dvd_mul_left m' p)
  by_cases e : q = p
  · subst e
    obtain ⟨t, ht⟩ := mod_one (hc.1 q hq hqm')
    by_cases h2 : q = 2
    · subst h2
      have h4 : 4 ∣ m := by
        obtain ⟨k, hk⟩ := hqm
        exact ⟨k, by rw [hm, hk]; omega⟩
      have h41 := hc.2 h4
      have e2 : S f 2 = f + 1 := by simp [S]
      rw [e2] at hu
      obtain ⟨k, hk⟩ := hqu
      omega
    · obtain ⟨z, hz⟩ := S_two ht q
      rw [hu] at hz
      obtain ⟨k, hk⟩ := hqu
      -- 2 q u = 2 q + q t (q q - q) + q q z, u = q k : 2 = q (2 k - t (q - 1) - z)
      have hz' : (q : Int) * (2 * (q * k)) = q * (2 + q * (t * ((q : Int) - 1) + z)) := by
        rw [hk] at hz
        have e1 : ((q * (q * k) : Nat) : Int) = (q : Int) * (q * k) := by simp
        rw [e1] at hz
        grind
      have h3 : (2 * ((q : Int) * k)) = 2 + q * (t * ((q : Int) - 1) + z) := Int.eq_of_mul_eq_mul_left (by omega) hz'
      have h4 : (q : Int) ∣ 2 := ⟨2 * k - (t * ((q : Int) - 1) + z), by grind⟩
      have h5 : q ∣ 2 := by exact_mod_cast h4
      have := Nat.le_of_dvd (by omega) h5
      omega
  · obtain ⟨t, ht⟩ := mod_one (hc.1 q hq hqm')
    obtain ⟨k, hk⟩ := S_one ht p
    have : q ∣ p := by
      have h1 : q ∣ p + q * k := by rw [← hk, hu]; exact Nat.dvd_trans hqu (Nat.dvd_mul_left u p)
      exact (Nat.dvd_add_left (Nat.dvd_mul_right q k)).1 h1
    rcases hp.2 q this with h1 | h1
    · omega
    · exact e h1
theorem main : ∀ (m : Nat), 1 ≤ m → ∀ f n, Cond m f → m ∣ S f n → m ∣ n := by
  intro m
  induction m using Nat.strongRecOn with
  | _ m ih =>
    intro hm0 f n hc hS
    rcases Nat.lt_or_ge m 2 with h2 | h2
    · obtain rfl : m = 1 := by omega
      exact Nat.one_dvd n
    obtain ⟨p, hp, m', hm⟩ := Pr.exists m h2
    have hp2 := hp.1
    have hpm : p ∣ m := ⟨m', hm⟩
    obtain ⟨t, ht⟩ := mod_one (hc.1 p hp hpm)
    obtain ⟨k, hk⟩ := S_one ht n
    have hpn : p ∣ n := by
      have h1 : p ∣ n + p * k := by rw [← hk]; exact Nat.dvd_trans hpm hS
      exact (Nat.dvd_add_left (Nat.dvd_mul_right p k)).1 h1
    obtain ⟨n', rfl⟩ := hpn
    obtain ⟨k2, hk2⟩ := S_one ht p
    have hu : S f p = p * (1 + k2) := by rw [hk2]; grind
    have hcop := unit_of hp hm hm0 hc hu
    have hm1 : 1 ≤ m' := by
      rcases Nat.eq_zero_or_pos m' with h | h
      · subst h; simp at hm; omega
      · exact h
    have hlt : m' < m := by
      rw [hm]
      exact Nat.lt_of_lt_of_le (by omega) (Nat.mul_le_mul_right m' hp2)
    rw [S_mul, hu, hm, Nat.mul_assoc] at hS
    have h3 : m' ∣ (1 + k2) * S (f ^ p) n' := Nat.dvd_of_mul_dvd_mul_left (by omega) hS
    have h4 := hcop.dvd_of_dvd_mul_left h3
    have hc' : Cond m' (f ^ p) := ⟨fun q hq hqm => pow_mod_one (hc.1 q hq (hm ▸ Nat.dvd_trans hqm (Nat.dvd_mul_left m' p))) p hq.1,
      fun h => pow_mod_one (hc.2 (hm ▸ Nat.dvd_trans h (Nat.dvd_mul_left m' p))) p (by omega)⟩
    have h5 := ih m' hlt hm1 (f ^ p) n' hc' h4
    rw [hm]
    exact Nat.mul_dvd_mul_left p h5

def Full (m f a : Nat) : Prop := (∀ p, Pr p → p ∣ m → ¬ p ∣ a ∧ f % p = 1) ∧ (4 ∣ m → f % 4 = 1)
theorem full_to {m f a j n : Nat} (hm : 2 ≤ m) (h : IsCyc (fun x => (f * x + a) % m) 0 j n) (hF : Full m f a) : n - j = m := by
  have hle := h.le (M := m) (fun s _ => Nat.mod_lt _ (by omega)) (by omega)
  obtain ⟨h1, h2, h3⟩ := h
  rw [iter_S, iter_S] at h2
  have hc : Cond m f := ⟨fun p hp hd => (hF.1 p hp hd).2, hF.2⟩
  have hdiv : m ∣ a * (f ^ j * S f (n - j)) := by
    have e : S f n = f ^ j * S f (n - j) + S f j := by
      have := S_add f (n - j) j
      rwa [Nat.sub_add_cancel (by omega)] at this
    rw [e, Nat.mul_add] at h2
    have h4 := Nat.sub_mod_eq_zero_of_mod_eq h2.symm
    rw [Nat.add_sub_cancel] at h4
    exact Nat.dvd_of_mod_eq_zero h4
  have c1 : Nat.Coprime m a := cop_of (by omega) fun q hq hqm => (hF.1 q hq hqm).1
  have c2 : Nat.Coprime m (f ^ j) := cop_of (by omega) fun q hq hqm hqf => by
    have h4 := hq.pow hqf
    have h5 := (hF.1 q hq hqm).2
    have := Nat.mod_eq_zero_of_dvd h4
    omega
  have h6 := main m (by omega) f (n - j) hc (c2.dvd_of_dvd_mul_left (c1.dvd_of_dvd_mul_left hdiv))
  have := Nat.le_of_dvd (by omega) h6
  omega

theorem bezout (a b : Nat) : ∃ x y : Int, (Nat.gcd a b : Int) = a * x + b * y := by
  induction a, b using Nat.gcd.induction with
  | H0 n => exact ⟨0, 1, by simp⟩
  | H1 m n hm ih =>
    obtain ⟨x, y, h⟩ := ih
    refine ⟨y - (n / m : Nat) * x, x, ?_⟩
    rw [Nat.gcd_rec, h]
    have e : ((n % m : Nat) : Int) = n - m * (n / m : Nat) := by
      have := Nat.mod_add_div n m
      have h2 : ((n % m + m * (n / m) : Nat) : Int) = n := by rw [this]
      simp only [Int.natCast_add, Int.natCast_mul] at h2
      omega
    rw [e]
    grind
/-- all states are reached -/
theorem reach {m j n : Nat} {T : Nat → Nat} (hm : 2 ≤ m) (hT : ∀ s, T s < m) (h : IsCyc T 0 j n) (hf : n - j = m) (y : Nat) (hy : y < m) : ∃ k, 1 ≤ k ∧ iter T 0 k = y := by
  have hle := h.le (M := m) (fun s _ => hT s) (by omega)
  obtain ⟨h1, h2, h3⟩ := h
  obtain rfl : j = 0 := by omega
  obtain rfl : n = m := by omega
  rcases Classical.em (∃ k, k < n ∧ iter T 0 k = y) with ⟨k, hk, e⟩ | hno
  · rcases Nat.eq_zero_or_pos k with h0 | h0
    · subst h0
      exact ⟨n, by omega, h2.symm.trans e⟩
    · exact ⟨k, h0, e⟩
  · have hlt : ∀ k, iter T 0 k < n := iter_lt (fun s _ => hT s) (by omega)
    have := pigeon n (n + 1) (fun i => if i < n then iter T 0 i else y) (fun i hi => by
      show (if i < n then iter T 0 i else y) < n
      split
      · exact hlt i
      · exact hy) (fun a b hab hb => by
      show (if a < n then iter T 0 a else y) ≠ (if b < n then iter T 0 b else y)
      rw [if_pos (by omega)]
      split
      · exact h3 a b hab (by assumption)
      · exact fun e => hno ⟨a, by omega, e⟩)
    omega
theorem full_of {m f a j n : Nat} (hm : 2 ≤ m) (h : IsCyc (fun x => (f * x + a) % m) 0 j n) (hf : n - j = m) : Full m f a := by
  have hR : ∀ y, y < m → ∃ k, 1 ≤ k ∧ (a * S f k) % m = y := fun y hy => by
    obtain ⟨k, h1, h2⟩ := reach hm (fun s => Nat.mod_lt _ (by omega)) h hf y hy
    exact ⟨k, h1, by rw [← iter_S]; exact h2⟩
  -- mod a divisor
  have hRd : ∀ d, d ∣ m → 0 < d → ∀ y, y < d → ∃ k, 1 ≤ k ∧ (a * S f k) % d = y := fun d hd h0 y hy => by
    have := Nat.le_of_dvd (by omega) hd
    obtain ⟨k, h1, h2⟩ := hR y (by omega)
    refine ⟨k, h1, ?_⟩
    rw [← Nat.mod_mod_of_dvd _ hd, h2, Nat.mod_eq_of_lt hy]
  have ha : ∀ p, Pr p → p ∣ m → ¬ p ∣ a := fun p hp hd hpa => by
    have hp2 := hp.1
    obtain ⟨k, _, h2⟩ := hRd p hd (by omega) 1 (by omega)
    have := Nat.mod_eq_zero_of_dvd (Nat.dvd_trans hpa (Nat.dvd_mul_right a (S f k)))
    omega
  have hf1 : ∀ p, Pr p → p ∣ m → f % p = 1 := fun p hp hd => by
    have hp2 := hp.1
    refine Classical.byContradiction fun hne => ?_
    by_cases hpf : p ∣ f
    · -- constant
      obtain ⟨k, hk, h2⟩ := hRd p hd (by omega) 0 (by omega)
      obtain ⟨k', rfl⟩ : ∃ k', k = k' + 1 := ⟨k - 1, by omega⟩
      rw [S, Nat.mul_add] at h2
      have h3 : p ∣ a * (f * S f k') + a * 1 := Nat.dvd_of_mod_eq_zero h2
      have h4 : p ∣ a * (f * S f k') := Nat.dvd_trans (Nat.dvd_trans hpf (Nat.dvd_mul_right f _)) (Nat.dvd_mul_left _ a)
      have h5 := (Nat.dvd_add_right h4).1 h3
      rw [Nat.mul_one] at h5
      exact ha p hp hd h5
    · -- (f - 1) S k + 1 = f ^ k is never 0 mod p
      have hg : ¬ (p : Int) ∣ (f : Int) - 1 := fun hdv => by
        apply hne
        obtain ⟨c, hc⟩ := hdv
        have h6 : (f : Int) % p = 1 := by
          have : (f : Int) = 1 + p * c := by omega
          rw [this, Int.add_mul_emod_self_left]
          exact Int.emod_eq_of_lt (by omega) (by omega)
        exact_mod_cast h6
      have hS : ∀ k, ((f : Int) - 1) * (S f k : Int) + 1 = (f : Int) ^ k := fun k => by
        induction k with
        | zero => simp [S]
        | succ k ih =>
          have e : ((S f (k + 1) : Nat) : Int) = f * (S f k : Int) + 1 := by rw [S]; simp
          rw [e, Int.pow_succ, ← ih]
          grind
      -- y with (f - 1) y = -a mod p
      obtain ⟨g, hgp⟩ : ∃ g : Nat, (g : Int) = ((f : Int) - 1) % p := ⟨(((f : Int) - 1) % p).toNat, by
        have := Int.emod_nonneg ((f : Int) - 1) (show (p : Int) ≠ 0 by omega)
        omega⟩
      have hgn : ¬ p ∣ g := fun h7 => hg (by
        have h8 : (p : Int) ∣ ((f : Int) - 1) % p := by rw [← hgp]; exact_mod_cast h7
        exact Int.dvd_of_emod_eq_zero (by
          have := Int.emod_eq_zero_of_dvd h8
          rwa [Int.emod_emod_of_dvd _ (Int.dvd_refl _)] at this))
      have hcop := hp.cop hgn
      obtain ⟨x, y, hxy⟩ := bezout p g
      rw [show Nat.gcd p g = 1 from hcop] at hxy
      -- target residue
      obtain ⟨r, hr⟩ : ∃ r : Nat, (r : Int) = (-(a : Int) * y) % p := ⟨((-(a : Int) * y) % p).toNat, by
        have := Int.emod_nonneg (-(a : Int) * y) (show (p : Int) ≠ 0 by omega)
        omega⟩
      have hrp : r < p := by
        have := Int.emod_lt_of_pos (-(a : Int) * y) (show (0 : Int) < p by omega)
        omega
      obtain ⟨k, hk, h2⟩ := hRd p hd (by omega) r hrp
      -- p divides (f-1) a S k + a = a f^k
      have h9 : (p : Int) ∣ (a : Int) * (f : Int) ^ k := by
        obtain ⟨c1, hc1⟩ : ∃ c, ((f : Int) - 1) = g + p * c := ⟨((f : Int) - 1) / p, by
          have := Int.emod_add_mul_ediv ((f : Int) - 1) p
          omega⟩
        obtain ⟨c2, hc2⟩ : ∃ c, -(a : Int) * y = r + p * c := ⟨(-(a : Int) * y) / p, by
          have := Int.emod_add_mul_ediv (-(a : Int) * y) p
          omega⟩
        obtain ⟨c3, hc3⟩ : ∃ c : Nat, a * S f k = r + p * c := ⟨(a * S f k) / p, by
          have := Nat.mod_add_div (a * S f k) p
          omega⟩
        have hc3' : (a : Int) * (S f k : Int) = r + p * (c3 : Int) := by exact_mod_cast hc3
        rw [← hS k]
        refine ⟨c1 * r + g * c3 + p * c1 * c3 + a * x - g * c2, ?_⟩
        have hxy' : (1 : Int) = p * x + g * y := by simpa using hxy
        have : (r : Int) = -(a : Int) * y - p * c2 := by omega
        calc (a : Int) * (((f : Int) - 1) * (S f k : Int) + 1) = ((f : Int) - 1) * ((a : Int) * (S f k : Int)) + a := by grind
          _ = (g + p * c1) * (r + p * c3) + a * (p * x + g * y) := by rw [hc1, hc3', ← hxy', Int.mul_one]
          _ = _ := by grind
      have h10 : p ∣ a * f ^ k := by exact_mod_cast h9
      rcases hp.mul h10 with h11 | h11
      · exact ha p hp hd h11
      · exact hpf (hp.pow h11)
  refine ⟨fun p hp hd => ⟨ha p hp hd, hf1 p hp hd⟩, fun h4 => ?_⟩
  have hp2 : Pr 2 := ⟨by omega, fun d hd => by
    have := Nat.le_of_dvd (by omega) hd
    have h0 : d ≠ 0 := fun e => by subst e; have := Nat.eq_zero_of_zero_dvd hd; omega
    omega⟩
  have hd2 : 2 ∣ m := Nat.dvd_trans ⟨2, rfl⟩ h4
  have hfo := hf1 2 hp2 hd2
  have hao := ha 2 hp2 hd2
  refine Classical.byContradiction fun hne => ?_
  have hf3 : f % 4 = 3 := by omega
  obtain ⟨t, ht⟩ : ∃ t, f = 3 + 4 * t := ⟨f / 4, by omega⟩
  have hS4 : ∀ k, S f k % 4 = 0 ∨ S f k % 4 = 1 := fun k => by
    induction k with
    | zero => exact .inl rfl
    | succ k ih =>
      have e : S f (k + 1) = 3 * S f k + 1 + 4 * (t * S f k) := by rw [S, ht]; grind
      omega
  obtain ⟨k, _, h2⟩ := hRd 4 h4 (by omega) 2 (by omega)
  rw [Nat.mul_mod] at h2
  have ha4 : a % 4 = 1 ∨ a % 4 = 3 := by omega
  rcases hS4 k with h5 | h5 <;> rcases ha4 with h6 | h6 <;> rw [h5, h6] at h2 <;> simp at h2

/-! ### The search for prime divisors -/
structure Sieve (M f a p mc : Nat) (full : Bool) : Prop where
  pos : 1 ≤ mc
  dvd : mc ∣ M
  no : ∀ d, 2 ≤ d → d < p → ¬ d ∣ mc
  all : ∀ q, Pr q → q ∣ M → p ≤ q → q ∣ mc
  is : full = true ↔ ∀ q, Pr q → q ∣ M → q < p → (¬ q ∣ a ∧ f % q = 1)
theorem Sieve.start {M f a : Nat} (hM : 1 ≤ M) : Sieve M f a 2 M true :=
  ⟨hM, Nat.dvd_refl M, fun d h1 h2 => by omega, fun q _ h _ => h, ⟨fun _ q hq _ h => by have := hq.1; omega, fun _ => rfl⟩⟩
theorem Sieve.skip {M f a p mc : Nat} {full : Bool} (h : Sieve M f a p mc full) (hp : ¬ p ∣ mc) : Sieve M f a (p + 1) mc full := by
  refine ⟨h.pos, h.dvd, fun d h1 h2 => ?_, fun q hq hd hle => h.all q hq hd (by omega), ?_⟩
  · by_cases e : d = p
    · subst e; exact hp
    · exact h.no d h1 (by omega)
  · rw [h.is]
    refine ⟨fun h1 q hq hd hlt => ?_, fun h1 q hq hd hlt => h1 q hq hd (by omega)⟩
    by_cases e : q = p
    · subst e; exact absurd (h.all q hq hd (Nat.le_refl _)) hp
    · exact h1 q hq hd (by omega)
theorem Sieve.prime {M f a p mc : Nat} {full : Bool} (h : Sieve M f a p mc full) (hp : p ∣ mc) (h2 : 2 ≤ p) : Pr p := by
  refine ⟨h2, fun d hd => ?_⟩
  have hle := Nat.le_of_dvd (by omega) hd
  have h0 : d ≠ 0 := fun e => by subst e; have := Nat.eq_zero_of_zero_dvd hd; omega
  by_cases e1 : d = 1
  · exact .inl e1
  · by_cases e2 : d = p
    · exact .inr e2
    · exact absurd (Nat.dvd_trans hd hp) (h.no d (by omega) (by omega))
/-- while p is divided out -/
structure Div (M p mc : Nat) : Prop where
  pos : 1 ≤ mc
  dvd : mc ∣ M
  no : ∀ d, 2 ≤ d → d < p → ¬ d ∣ mc
  all : ∀ q, Pr q → q ∣ M → p < q → q ∣ mc
theorem Sieve.div {M f a p mc : Nat} {full : Bool} (h : Sieve M f a p mc full) : Div M p mc := ⟨h.pos, h.dvd, h.no, fun q hq hd hlt => h.all q hq hd (by omega)⟩
theorem Div.next {M p mc : Nat} (h : Div M p mc) (hp : Pr p) (hd : p ∣ mc) : Div M p (mc / p) := by
  have hp2 := hp.1
  obtain ⟨k, rfl⟩ := hd
  rw [Nat.mul_div_cancel_left k (by omega)]
  refine ⟨?_, Nat.dvd_trans (Nat.dvd_mul_left k p) h.dvd, fun d h1 h2 h3 => h.no d h1 h2 (Nat.dvd_trans h3 (Nat.dvd_mul_left k p)), fun q hq hqM hlt => ?_⟩
  · rcases Nat.eq_zero_or_pos k with h0 | h0
    · subst h0; have := h.pos; simp at this
    · exact h0
  · rcases hq.mul (h.all q hq hqM hlt) with h1 | h1
    · rcases hp.2 q h1 with h3 | h3
      · have := hq.1; omega
      · omega
    · exact h1
theorem Sieve.next {M f a p mc mc' : Nat} {full full' : Bool} (h : Sieve M f a p mc full) (hp : p ∣ mc) (h2 : 2 ≤ p) (hd : Div M p mc') (hno : ¬ p ∣ mc') (hf : full' = true ↔ (full = true ∧ (¬ p ∣ a ∧ f % p = 1))) : Sieve M f a (p + 1) mc' full' := by
  have hpr := h.prime hp h2
  refine ⟨hd.pos, hd.dvd, fun d h1 h3 => ?_, fun q hq hqM hle => hd.all q hq hqM (by omega), ?_⟩
  · by_cases e : d = p
    · subst e; exact hno
    · exact hd.no d h1 (by omega)
  · rw [hf, h.is]
    constructor
    · rintro ⟨h4, h5⟩ q hq hqM hlt
      by_cases e : q = p
      · subst e; exact h5
      · exact h4 q hq hqM (by omega)
    · intro h4
      exact ⟨fun q hq hqM hlt => h4 q hq hqM (by omega), h4 p hpr (Nat.dvd_trans hp h.dvd) (by omega)⟩
theorem Sieve.done {M f a p mc : Nat} {full : Bool} (h : Sieve M f a p mc full) (hp : mc < p) : full = true ↔ ∀ q, Pr q → q ∣ M → (¬ q ∣ a ∧ f % q = 1) := by
  rw [h.is]
  refine ⟨fun h1 q hq hqM => h1 q hq hqM ?_, fun h1 q hq hqM _ => h1 q hq hqM⟩
  rcases Nat.lt_or_ge q p with h2 | h2
  · exact h2
  · have h3 := h.all q hq hqM h2
    have := Nat.le_of_dvd h.pos h3
    omega
end Go.Proofs.YtogadldnkhdjbaaDoor.Hd
/- The cycles of a congruence: the law. -/
namespace Go.Proofs.YtogadldnkhdjbaaDoor.Cycled
open Go.RowKit Go.Proofs.YtogadldnkhdjbaaDoor Go.Proofs.YtogadldnkhdjbaaDoor.Base Go.Proofs.YtogadldnkhdjbaaDoor.Mem Go.Proofs.YtogadldnkhdjbaaDoor.Src Go.Proofs.YtogadldnkhdjbaaDoor.Blk Go.Proofs.YtogadldnkhdjbaaDoor.Pow Go.Proofs.YtogadldnkhdjbaaDoor.Cong Go.Proofs.YtogadldnkhdjbaaDoor.CycM Go.Proofs.YtogadldnkhdjbaaDoor.Draw
set_option linter.unusedVariables false
theorem cyc_or {T : Nat → Nat} {x : Nat} : ∀ k, (∃ j n, IsCyc T x j n) ∨ ∀ a b, a < b → b < k → iter T x a ≠ iter T x b
  | 0 => .inr fun a b _ h => absurd h (Nat.not_lt_zero b)
  | k + 1 => by
    rcases cyc_or (T := T) (x := x) k with h | h
    · exact .inl h
    · by_cases hj : ∃ j, j < k ∧ iter T x j = iter T x k
      · obtain ⟨j, h1, h2⟩ := hj
        exact .inl ⟨j, k, h1, h2, h⟩
      · refine .inr fun a b hab hb => ?_
        rcases Nat.lt_or_ge b k with h1 | h1
        · exact h a b hab h1
        · obtain rfl : b = k := by omega
          exact fun e => hj ⟨a, hab, e⟩
theorem cyc_ex {T : Nat → Nat} {M x : Nat} (hT : ∀ s, s < M → T s < M) (hx : x < M) : ∃ j n, IsCyc T x j n := by
  rcases cyc_or (T := T) (x := x) (M + 1) with h | h
  · exact h
  · have := pigeon M (M + 1) (iter T x) (fun i _ => iter_lt hT hx i) h
    omega
theorem fullB_iff {m f a : Nat} (hm : 2 ≤ m) (hm2 : m ≤ 100000) (hf : f < m) (ha : a < m) : fullB m f a = true ↔ Hd.Full m f a := by
  have hB : congB m f a = true := by
    rw [congB, inR_yes (by omega), inR_yes (by omega), inR_yes (by omega)]; rfl
  obtain ⟨j, n, hc⟩ := cyc_ex (T := stepN m f a) (M := m) (x := 0) (fun s _ => stepN_lt (by omega) s) (by omega)
  rw [fullB_eq hB (j := j) (n := n) (by simpa using hc)]
  have hlt := hc.1
  rw [beq_iff_eq]
  constructor
  · intro h
    exact Hd.full_of hm hc (by omega)
  · intro h
    have := Hd.full_to hm hc h
    omega
theorem tmod_one {f p : Nat} (hp : 2 ≤ p) : ((f : Int) - 1).tmod (p : Int) = 0 ↔ f % p = 1 := by
  rcases Nat.eq_zero_or_pos f with h | h
  · subst h
    have e : ((0 : Nat) : Int) - 1 = -1 := rfl
    rw [e, Int.neg_tmod, Int.tmod_eq_emod_of_nonneg (by decide), Int.emod_eq_of_lt (by decide) (by omega)]
    simp
  · rw [Int.tmod_eq_emod_of_nonneg (by omega), show (f : Int) - 1 = ((f - 1 : Nat) : Int) by omega, ← Int.natCast_emod]
    have h1 := Nat.mod_lt (f - 1) (show p > 0 by omega)
    obtain ⟨q, hq⟩ : ∃ q, f - 1 = p * q + (f - 1) % p := ⟨(f - 1) / p, by rw [Nat.mul_comm]; exact (Nat.div_add_mod' (f - 1) p).symm⟩
    constructor
    · intro h2
      have h3 : (f - 1) % p = 0 := by exact_mod_cast h2
      rw [h3] at hq
      rw [show f = 1 + p * q by omega, Nat.add_mul_mod_self_left, Nat.mod_eq_of_lt (by omega)]
    · intro h2
      have h3 : f = ((f - 1) % p + 1) + p * q := by omega
      rw [h3, Nat.add_mul_mod_self_left] at h2
      by_cases h4 : (f - 1) % p + 1 = p
      · rw [h4, Nat.mod_self] at h2; cases h2
      · rw [Nat.mod_eq_of_lt (by omega)] at h2
        have : (f - 1) % p = 0 := by omega
        exact_mod_cast this
theorem bothB_yes {m f a x : Nat} (hm : 2 ≤ m) (hm2 : m ≤ 100000) (hf : f < m) (ha : a < m) (hx : x < m) : bothB m f a x = true := by
  rw [bothB, congB, inR_yes (by omega), inR_yes (by omega), inR_yes (by omega), inR_yes (by omega)]; rfl
def longB (n n' : Nat) : Bool := decide ((n : Int) > 1048576) || decide ((n' : Int) > 1048576)
theorem b10Long_any (A A' : Option Addr) (n c n' c' : Nat) (w : World) :
    Calls Tryd.prog 6 #[.slice A n c, .slice A' n' c'] w fun e w' => e = .returned (.bool (longB n n')) ∧ w = w' := by
  by_cases h1 : (n : Int) > 1048576
  · go_enter Tryd.func6, Tryd.ntmps6
    go_wp2
    go_ret
    exact ⟨ret_bool (by simp only [longB, decide_eq_true h1, Bool.true_or]), rfl⟩
  · go_enter Tryd.func6, Tryd.ntmps6
    go_wp2
    go_ret
    exact ⟨ret_bool (by rw [longB, decide_eq_false (show ¬ (n : Int) > 1048576 by omega), Bool.false_or]), rfl⟩
/-- the search's relation -/
def SRel (m f a : Nat) (fv mv pv : Value) : Prop := ∃ (p mc : Nat) (full : Bool), fv = .bool full ∧ mv = .int .i64 (mc : Int) ∧ pv = .int .i64 (p : Int) ∧ 2 ≤ p ∧ p ≤ m + 1 ∧ Hd.Sieve m f a p mc full
def DRel (m p mc : Nat) (mv : Value) : Prop := ∃ mc' : Nat, mc' ≤ mc ∧ mv = .int .i64 (mc' : Int) ∧ Hid (Hd.Div m p mc')
theorem SRel.mk {m f a p mc : Nat} {full : Bool} (hp : 2 ≤ p) (hm : p ≤ m) (h : Hd.Sieve m f a (p + 1) mc full) : SRel m f a (.bool full) (.int .i64 (mc : Int)) (.int .i64 ((p : Int) + 1)) :=
  ⟨p + 1, mc, full, rfl, rfl, by simp, by omega, by omega, h⟩
theorem DRel.less {K mc' : Nat} {v : Int} (hv : v = (K : Int)) (h : K < mc') : (intOf (.int .i64 v)).toNat < (intOf (.int .i64 (mc' : Int))).toNat := by
  subst hv; simp only [intOf]; omega
theorem DRel.mk {m p mc mc' : Nat} (h : mc' ≤ mc) (h2 : Hid (Hd.Div m p mc')) {v : Int} (hv : v = (mc' : Int)) : DRel m p mc (.int .i64 v) := ⟨mc', h, by rw [hv], h2⟩
end Go.Proofs.YtogadldnkhdjbaaDoor.Cycled
/- The way of a stream's states: where it comes again, and which parts of it are apart. -/
namespace Go.Proofs.YtogadldnkhdjbaaDoor.ApartM
open Go.Proofs.YtogadldnkhdjbaaDoor Go.Proofs.YtogadldnkhdjbaaDoor.Base Go.Proofs.YtogadldnkhdjbaaDoor.Str Go.Proofs.YtogadldnkhdjbaaDoor.CycM Go.Proofs.YtogadldnkhdjbaaDoor.Take
set_option linter.unusedVariables false
/-- the way of the states of a stream: by U from X, the first n states are all different, and state n is state j -/
structure Way (K W T m f a s : Int) (U : Nat → Nat) (X j n : Nat) : Prop where
  start : s = (X : Int)
  cyc : IsCyc U X j n
  small : n ≤ 200000
  pre : preS K W T m f a s = (j : Int)
  per : perS K W T m f a s = (n : Int) - j
  valid : ∀ c, streamB K W T m f a ((iter U X c : Nat) : Int) = true
  take : ∀ i c : Nat, takeX K W T m f a ((iter U X i : Nat) : Int) (c : Int) = ((iter U X (i + c) : Nat) : Int)
theorem way {K W T m f a s : Int} (hB : streamB K W T m f a s = true) : ∃ (U : Nat → Nat) (X j n : Nat), Way K W T m f a s U X j n := by
  obtain ⟨X, N, rfl, -, -, ⟨rfl, V, A, rfl, rfl, hV, hA, hX⟩ | ⟨rfl, M, F, A, rfl, rfl, rfl, h1, h2, h3, h4, h5⟩⟩ := Skip.natsN hB (c := 0) (by decide)
  · have hT : ∀ t, t < 2 ^ V → Reg.nextR V A t < 2 ^ V := fun t ht => Reg.nextR_lt ht
    have hp : 2 ^ V ≤ 2 ^ 16 := Nat.pow_le_pow_right (by decide) hV
    obtain ⟨j, n, hc⟩ := Cycled.cyc_ex hT hX
    have hn : n ≤ 2 ^ V := pigeon _ n (iter (Reg.nextR V A) X) (fun i _ => iter_lt hT hX i) hc.2.2
    have hv : ∀ c, streamB 0 V A m f a ((iter (Reg.nextR V A) X c : Nat) : Int) = true := fun c => by
      rcases streamB_true hB with ⟨-, hR⟩ | ⟨h, -⟩
      · have hy := iter_lt hT hX c
        have e : streamB 0 V A m f a ((iter (Reg.nextR V A) X c : Nat) : Int) = streamB 0 V A m f a (X : Int) := by
          unfold streamB
          rw [if_pos rfl, if_pos rfl, Jump.bothR_yes hV hA hy, Jump.bothR_yes hV hA hX]
        rw [e]; exact hB
      · omega
    have hR := Jump.bothR_yes hV hA hX
    refine ⟨_, X, j, n, rfl, hc, by omega, ?_, ?_, hv, fun i c => ?_⟩
    · rw [preS_r hB, Reg.preR_eq hR (j := j) (n := n) (by simpa using hc)]
    · rw [perS_r hB, Reg.perR_eq hR (j := j) (n := n) (by simpa using hc)]
    · rw [Skip.takeX_r, iter_add]
  · have hT : ∀ t, t < M → Cong.stepN M F A t < M := fun t ht => Nat.mod_lt _ (by omega)
    obtain ⟨j, n, hc⟩ := Cycled.cyc_ex hT h5
    have hn : n ≤ M := pigeon _ n (iter (Cong.stepN M F A) X) (fun i _ => iter_lt hT h5 i) hc.2.2
    have hv : ∀ c, streamB 1 W T M F A ((iter (Cong.stepN M F A) X c : Nat) : Int) = true := fun c => by
      have hy := iter_lt hT h5 c
      have e : streamB 1 W T M F A ((iter (Cong.stepN M F A) X c : Nat) : Int) = streamB 1 W T M F A (X : Int) := by
        unfold streamB; rw [if_neg (show ¬ (1 : Int) = 0 by decide), if_neg (show ¬ (1 : Int) = 0 by decide), if_pos rfl, if_pos rfl, Cycled.bothB_yes h1 h2 h3 h4 hy, Cycled.bothB_yes h1 h2 h3 h4 h5]
      rw [e]; exact hB
    have hR := Cycled.bothB_yes h1 h2 h3 h4 h5
    refine ⟨_, X, j, n, rfl, hc, by omega, ?_, ?_, hv, fun i c => ?_⟩
    · rw [preS_c hB, Cong.preB_eq hR (j := j) (n := n) (by simpa using hc)]
    · rw [perS_c hB, Cong.perB_eq hR (j := j) (n := n) (by simpa using hc)]
    · rw [Skip.takeX_c, iter_add]
/-- the first L states are all different -/
def Diff (U : Nat → Nat) (X L : Nat) : Prop := ∀ a b, a < b → b < L → iter U X a ≠ iter U X b
theorem Diff.zero (U : Nat → Nat) (X : Nat) : Diff U X 0 := fun _ _ _ h => absurd h (Nat.not_lt_zero _)
theorem Diff.step {U : Nat → Nat} {X i : Nat} (h : Diff U X i) (hn : ∀ k, k < i → iter U X k ≠ iter U X i) : Diff U X (i + 1) := fun a b hab hb => by
  rcases Nat.lt_or_ge b i with h1 | h1
  · exact h a b hab h1
  · obtain rfl : b = i := by omega
    exact hn a hab
theorem Way.fine {K W T m f a s : Int} {U : Nat → Nat} {X j n L : Nat} (h : Way K W T m f a s U X j n) (hd : Diff U X L) : L ≤ n := by
  rcases Nat.lt_or_ge n L with h1 | h1
  · exact absurd h.cyc.2.1 (hd j n h.cyc.1 h1)
  · exact h1
theorem Way.stop {K W T m f a s : Int} {U : Nat → Nat} {X j n L i k : Nat} (h : Way K W T m f a s U X j n) (hi : i < L) (hk : k < i) (e : iter U X k = iter U X i) : ¬ L ≤ n := fun hL =>
  h.cyc.2.2 k i hk (by omega) e
end Go.Proofs.YtogadldnkhdjbaaDoor.ApartM

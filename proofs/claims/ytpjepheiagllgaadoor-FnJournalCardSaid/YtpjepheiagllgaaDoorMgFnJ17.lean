/- The reference: a lab that is drawn, lines that are drawn. -/
import Derived.Test.YtpjepheiagllgaaDoorMgFnJ14
import Derived.Test.YtpjepheiagllgaaDoorMgFnJ16
namespace Go.Proofs.YtpjepheiagllgaaDoor.LabD
open Go.RowKit Go.Proofs.YtpjepheiagllgaaDoor Go.Proofs.YtpjepheiagllgaaDoor.Base Go.Proofs.YtpjepheiagllgaaDoor.Mem Go.Proofs.YtpjepheiagllgaaDoor.Dec Go.Proofs.YtpjepheiagllgaaDoor.LabM Go.Proofs.YtpjepheiagllgaaDoor.Str Go.Proofs.YtpjepheiagllgaaDoor.Take Go.Proofs.YtpjepheiagllgaaDoor.StTx Go.Proofs.YtpjepheiagllgaaDoor.Src Go.Proofs.YtpjepheiagllgaaDoor.Blk Go.Proofs.YtpjepheiagllgaaDoor.Draw Go.Proofs.YtpjepheiagllgaaDoor.Set
set_option linter.unusedVariables false
theorem beside_low {p b : Nat} {w w3 w4 : World} (h : Beside p w w3) (hb : Below b w3 w4) (hle : w.heap.size ≤ b) : Beside p w w4 :=
 ⟨hb.os.trans h.os, hb.tape.trans h.tape, hb.output.trans h.output, Nat.le_trans h.size hb.size, fun q h1 h2 => (hb.block q (Nat.lt_of_lt_of_le h1 hle)).trans (h.same q h1 h2)⟩
theorem src_low {w w' : World} {p K C : Nat} (h : Go.Proofs.YtpjepheiagllgaaDoor.Src.Src w p K) (hb : Below C w w') (hp : p < C) : Go.Proofs.YtpjepheiagllgaaDoor.Src.Src w' p K := by
 have hk : ∀ g, g ≤ p → w'.heap[g]? = w.heap[g]? := fun g hgp => hb.block g (by omega)
 obtain ⟨A, c, zs, a, sd, h0, h1, h2, hf, h3, h4, h5, h6, h7, h8⟩ := h.ex
 have hc : ∀ i, w'.cell? ⟨p, i, none⟩ = w.cell? ⟨p, i, none⟩ := fun i => World.cell?_of_block (a := ⟨p, i, none⟩) (hk p (Nat.le_refl _))
 exact ⟨A, c, zs, a, sd, (hc 0).trans h0, (hc 1).trans h1, (hc 2).trans h2, fun i => (World.frozen?_of_block (a := ⟨p, i, none⟩) (hk p (Nat.le_refl _))).trans (hf i), h3, h4, h5, h6, h7, RdB.keep h8 (Nat.le_refl _) fun g hg => hk g (by omega)⟩
theorem lab_beside {w w' : World} {b p : Nat} {ss : List ByteArray} {fs : List Int} (h : Lab w b ss fs) (hb : Beside p w w') (hp : p < b) : Lab w' b ss fs := by
 obtain ⟨A, A', c, c', h⟩ := h
 have hc : ∀ i, w'.cell? ⟨b, i, none⟩ = w.cell? ⟨b, i, none⟩ := fun i => World.cell?_of_block (a := ⟨b, i, none⟩) (hb.same b h.lt (by omega))
 have hz : ∀ i, w'.frozen? ⟨b, i, none⟩ = w.frozen? ⟨b, i, none⟩ := fun i => World.frozen?_of_block (a := ⟨b, i, none⟩) (hb.same b h.lt (by omega))
 refine ⟨A, A', c, c', (hc 0).trans h.c0, (hc 1).trans h.c1, (hz 0).trans h.z0, (hz 1).trans h.z1, Nat.lt_of_lt_of_le h.lt hb.size, h.len, h.cap, h.six, ?_, ?_, h.emp, h.abv, h.abv', ?_⟩
 ·intro h0
  obtain ⟨q, o, e, hq, hcs⟩ := h.rd h0
  have := (h.abv _ _ e).1
  exact ⟨q, o, e, Nat.lt_of_lt_of_le hq hb.size, fun i hi => (World.cell?_of_block (a := ⟨q, o + i, none⟩) (hb.same q hq (by omega))).trans (hcs i hi)⟩
 ·intro h0
  obtain ⟨q, o, e, hq, hcs⟩ := h.rs h0
  have := (h.abv' _ _ e).1
  exact ⟨q, o, e, Nat.lt_of_lt_of_le hq hb.size, fun i hi => (World.cell?_of_block (a := ⟨q, o + i, none⟩) (hb.same q hq (by omega))).trans (hcs i hi)⟩
 ·intro g off i e
  by_cases h0 : ss.length = 0
  ·rw [(h.emp h0).2.1] at e; cases e
  ·obtain ⟨q, o, e2, hlt, _⟩ := h.rs (by omega)
   have hbg := (h.abv' _ _ e).1
   rw [e] at e2
   injection e2 with e2
   injection e2 with e2 _ _
   subst e2
   exact (World.frozen?_of_block (a := ⟨g, i, none⟩) (hb.same g hlt (by omega))).trans (h.fz' g off i e)
def AllGd (ss : List ByteArray) : Prop := ∀ i, i < ss.length → Gd 10 (ss.getD i ByteArray.empty)
theorem allGd_laid {ss ss' : List ByteArray} {fs fs' xs : List Int} {x : ByteArray} (h : AllGd ss) (hx : Gd 10 x) (hl : Laid ss fs x xs ss' fs') : AllGd ss' ∧ ss'.length ≤ ss.length + 1 := by
 rcases hl with ⟨rfl, _⟩ | ⟨_, k, hk, rfl, _⟩
 ·exact ⟨h, by omega⟩
 ·have hm : ∀ y ∈ ss, Gd 10 y := fun y hy => by
   obtain ⟨i, hi, rfl⟩ := List.getElem_of_mem hy
   have := h i hi
   rwa [List.getD_eq_getElem?_getD, List.getElem?_eq_getElem hi] at this
  refine ⟨fun i hi => ?_, by simp; omega⟩
  rw [List.getD_eq_getElem?_getD, List.getElem?_eq_getElem hi]
  have hmem := List.getElem_mem hi
  rcases List.mem_append.1 hmem with h1 | h1
  ·exact hm _ (List.mem_of_mem_take h1)
  ·rcases List.mem_cons.1 h1 with h1 | h1
   ·show Gd 10 _
    rw [h1]; exact hx
   ·exact hm _ (List.mem_of_mem_drop h1)
def DLab (p L : Nat) (w : World) (e : Ending) (w' : World) : Prop :=
 ∃ (A A' : Option Addr) (c c' : Nat) (ss : List ByteArray), e = .returned (.agg #[.slice A ss.length c, .slice A' ss.length c']) ∧ ss.length ≤ 3 ∧ AllGd ss ∧ RdT w' w'.heap.size A ss ∧ (∀ g off, A = some ⟨g, off, none⟩ → w.heap.size ≤ g) ∧ Go.Proofs.YtpjepheiagllgaaDoor.Src.Src w' p L ∧ Beside p w w'
def DlRel (p K b : Nat) (w : World) (kv : Value) (wr : World) : Prop :=
 ∃ (k : Nat) (ss : List ByteArray) (fs : List Int), kv = .int .i64 (k : Int) ∧ ss.length + k ≤ 3 ∧ Hid (AllGd ss) ∧ Hid (Lab wr b ss fs) ∧ Hid (Go.Proofs.YtpjepheiagllgaaDoor.Src.Src wr p (K + 2 + 18 * (3 - k))) ∧ Hid (Blk wr w.heap.size 28 #[.slice none 0 0, .slice none 0 0]) ∧ Hid (Beside p w wr)
set_option maxHeartbeats 4000000 in
set_option maxRecDepth 100000 in
theorem drawLab_any (p K : Nat) (w : World) (h : Go.Proofs.YtpjepheiagllgaaDoor.Src.Src w p K) (hK : K ≤ 1000000) : Calls Tryd.prog 13 #[.pointer (some ⟨p, 0, none⟩)] w (DLab p (K + 100) w) := by
  have hp := h.lt
  obtain ⟨W0, hW0⟩ : ∃ W0, W0 = (w.alloc (.cells #[.slice none 0 0, .slice none 0 0] 28)).alloc (.cells #[.slice none 0 0, .slice none 0 0] 28) := ⟨_, rfl⟩
  have e0 : W0.heap.size = w.heap.size + 1 + 1 := by rw [hW0]; simp
  have b0 : Below w.heap.size w W0 := by rw [hW0]; exact ((Below.refl _ _).alloc (Nat.le_refl _) _).alloc (by simp) _
  have R0 : Blk W0 w.heap.size 28 #[.slice none 0 0, .slice none 0 0] := by rw [hW0]; exact (Blk.new _ _ _).alloc _
  have R1 : Blk W0 (w.heap.size + 1) 28 #[.slice none 0 0, .slice none 0 0] := by rw [hW0]; exact Blk.newAt _ _ (by simp)
  have HL0 : Hid (Lab W0 (w.heap.size + 1) [] []) := Lib.hid ⟨none, none, 0, 0, R1.at 0 rfl, R1.at 1 rfl, R1.frz 0, R1.frz 1, R1.lt, rfl, ⟨Nat.le_refl _, Nat.le_refl _⟩, by decide, fun h => absurd h (by decide), fun h => absurd h (by decide), fun _ => ⟨rfl, rfl, rfl, rfl⟩, fun g off e => (by cases e), fun g off e => (by cases e), fun g off i e => (by cases e)⟩
  have HS0 := Lib.hid (h.below b0)
  have HB0 := Lib.hid (Beside.ofBelow (p := p) b0)
  have HR0 := Lib.hid R0
  have HW0 := Lib.hid hW0
  clear h hW0 R0 R1 b0 e0
  go_enter Tryd.func13, Tryd.ntmps13
  go_wp2_with fail
  rw [← HW0.out]
  refine (pick_any p K 4 W0 HS0.out (by omega)).mono ?_
  rintro e w1 ⟨k0, rfl, hk0, s1, gr1⟩
  have hk3 : k0 ≤ 3 := by omega
  have B1 := Beside.grown gr1
  have H1 : Hid (DlRel p K (w.heap.size + 1) w (.int .i64 (k0 : Int)) w1) := Lib.hid
    ⟨k0, [], [], rfl, by simpa using hk3, Lib.hid (fun i hi => absurd hi (Nat.not_lt_zero i)), Lib.hid (lab_beside HL0.out B1 (by omega)), Lib.hid (s1.more (by omega)), Lib.hid (HR0.out.beside B1 (by omega)), Lib.hid (HB0.out.trans B1)⟩
  clear s1 gr1 B1 hk0
  go_wp2
  go_loopw [4] (fun kv wr => DlRel p K (w.heap.size + 1) w kv wr) (fun kv _ => (intOf kv).toNat)
  case atStart => exact H1.out
  case round =>
    obtain ⟨k, ss, fs, rfl, hk, HA, HL, HS, HR, HB⟩ := hrel
    clear H1
    by_cases hk0 : 0 < k
    · have hk1 : (0 : Int) < (k : Int) := by omega
      go_wp2_with fail
      refine (lit_good p _ 10 5 [⟨#[97]⟩, ⟨#[98]⟩, ⟨#[99, 111, 105, 110]⟩, ⟨#[100, 101, 99, 107]⟩, ⟨#[120]⟩] _ wr HS.out (by omega) rfl rfl (by decide) (by decide) (by decide +kernel)).mono ?_
      rintro e w2 ⟨x, gx, rfl, s2, gr2⟩
      have HL2 := Lib.hid (lab_beside HL.out (Beside.grown gr2) (by omega))
      have HR2 := Lib.hid (HR.out.beside (Beside.grown gr2) (by omega))
      have HB2 := Lib.hid (HB.out.trans (Beside.grown gr2))
      have HS2 := Lib.hid s2
      have HGX := Lib.hid gx
      clear s2 gr2 gx
      go_wp2_with fail
      refine (l11DrawOk_any p _ w2 HS2.out (by omega)).mono ?_
      rintro e w3 ⟨C, V, T, m, f, a, s, hB, rfl, s3, bs3⟩
      have HL3 := Lib.hid (lab_beside HL2.out bs3 (by omega))
      have HR3 := Lib.hid (HR2.out.beside bs3 (by omega))
      have HB3 := Lib.hid (HB2.out.trans bs3)
      have HS3 := Lib.hid s3
      have HSET := Lib.hid (set_any (w.heap.size + 1) ss fs x C V T m f a s w3 HL3.out (Nat.le_trans HGX.out.1 (by decide)))
      clear s3 bs3 hB
      go_wp2_with fail
      refine HSET.out.mono ?_
      rintro e w4 ⟨r, ss', fs', rfl, hl, hlab, b4⟩
      obtain ⟨hg', hlen'⟩ := allGd_laid HA.out HGX.out hl
      have HN : Hid (DlRel p K (w.heap.size + 1) w (.int .i64 ((k : Int) - 1)) w4) := Lib.hid
        ⟨k - 1, ss', fs', by congr 1; omega, by omega, Lib.hid hg', Lib.hid hlab, Lib.hid ((src_low HS3.out b4 (by omega)).more (by omega)), Lib.hid (HR3.out.below b4 (Nat.lt_succ_self _)), Lib.hid (beside_low HB3.out b4 (Nat.le_succ _))⟩
      clear hl hlab b4 hg' hlen'
      go_wp2
      go_roundw
      case rel => exact HN.out
      case measure => simp [intOf]; omega
    · obtain rfl : k = 0 := by omega
      obtain ⟨A, A', c, c', hlab⟩ := HL.out
      have c0 := hlab.c0
      have c1 := hlab.c1
      have r0 := HR.out.at 0 (v := .slice none 0 0) rfl
      have r1 := HR.out.at 1 (v := .slice none 0 0) rfl
      have z0 := HR.out.frz 0
      have z1 := HR.out.frz 1
      have HLB := Lib.hid hlab
      have hss : ss.length ≤ 3 := by omega
      clear hlab
      have S2 := (HR.out.setTo 0 (.slice A ss.length c) rfl).setTo 1 (.slice A' ss.length c') rfl
      have s0 := S2.at 0 (v := .slice A ss.length c) rfl
      have s1 := S2.at 1 (v := .slice A' ss.length c') rfl
      obtain ⟨WF, hWF⟩ : ∃ WF, WF = (wr.setCell ⟨w.heap.size, 0, none⟩ (.slice A ss.length c)).setCell ⟨w.heap.size, 1, none⟩ (.slice A' ss.length c') := ⟨_, rfl⟩
      have hg : wr.grownBy WF (some w.heap.size) := by rw [hWF]; exact grown_trans (Src.grown_setCell wr ⟨w.heap.size, 0, none⟩ _) (Src.grown_setCell _ ⟨w.heap.size, 1, none⟩ _)
      have HRET : Hid (DLab p (K + 100) w (.returned (.agg #[.slice A ss.length c, .slice A' ss.length c'])) WF) := Lib.hid
        ⟨A, A', c, c', ss, rfl, hss, HA.out, fun h0 => by
          obtain ⟨q, o, e, hq, hcs⟩ := HLB.out.rd h0
          have hqb := (HLB.out.abv _ _ e).1
          exact ⟨q, o, e, Nat.lt_of_lt_of_le hq hg.size, fun i hi => (World.cell?_of_block (a := ⟨q, o + i, none⟩) (hg.block q hq (fun e2 => by injection e2 with e2; omega))).trans (hcs i hi)⟩,
         fun g off e => by have := (HLB.out.abv g off e).1; omega,
         (HS.out.kept hg (fun g e => by injection e with e; omega)).more (by omega), by rw [hWF]; exact (HB.out.set (Nat.le_refl _) _).set (Nat.le_refl _) _⟩
      rw [hWF] at HRET
      clear S2 hWF hg
      go_wp2
      exact bodyPost_ret (v := .agg #[.slice A ss.length c, .slice A' ss.length c']) (by simp [results, Tryd.results13, go_sem, s0, s1]) rfl HRET.out
def B10LabRet (w : World) (e : Ending) (w' : World) : Prop :=
 ∃ (A A' : Option Addr) (c c' : Nat) (ss : List ByteArray), e = .returned (.agg #[.slice A ss.length c, .slice A' ss.length c']) ∧ ss.length ≤ 3 ∧ AllGd ss ∧ RdT w' w'.heap.size A ss ∧ Below w.heap.size w w'
set_option maxHeartbeats 2000000 in
set_option maxRecDepth 100000 in
theorem b10Lab_any (A : Option Addr) (c B : Nat) (zs : List Int) (w : World) (hx : RdB w B A zs) (hB : B ≤ w.heap.size) (hl : zs.length ≤ 9223372036854775807) (hz : ∀ z ∈ zs, 0 ≤ z ∧ z ≤ 255) :
    Calls Tryd.prog 6 #[.slice A zs.length c] w (B10LabRet w) := by
  obtain ⟨W0, hW0⟩ : ∃ W0, W0 = w.alloc (.cells #[.slice none 0 0, .slice none 0 0] 28) := ⟨_, rfl⟩
  have e0 : W0.heap.size = w.heap.size + 1 := by rw [hW0]; simp
  have b0 : Below w.heap.size w W0 := by rw [hW0]; exact (Below.refl _ _).alloc (Nat.le_refl _) _
  have R0 : Blk W0 w.heap.size 28 #[.slice none 0 0, .slice none 0 0] := by rw [hW0]; exact Blk.new _ _ _
  have HF := Lib.hid (from_any A c w.heap.size zs W0 ((hx.below b0 hB).more hB) (by omega) hl hz)
  have HW := Lib.hid hW0
  have HB0 := Lib.hid b0
  have HR0 := Lib.hid R0
  have E0 := Lib.hid e0
  rw [e0] at HF
  clear hW0 b0 R0 hx hz e0
  go_enter Tryd.func6, Tryd.ntmps6
  go_wp2_with fail
  rw [← HW.out]
  refine HF.out.mono ?_
  rintro e w1 ⟨rfl, s1, b1⟩
  have B1 := Lib.hid (HB0.out.trans (b1.mono (by have := E0.out; omega)))
  have R1 := Lib.hid (HR0.out.below b1 (by omega))
  have HD := Lib.hid (drawLab_any (w.heap.size + 1) 0 w1 s1 (by decide))
  have hs1 := s1.lt
  clear s1 b1
  go_wp2_with fail
  refine HD.out.mono ?_
  rintro e w2 ⟨A2, A3, c2, c3, ss, rfl, hss, hgd, hrd, hlo, s2, bs2⟩
  have B2 := B1.out.trans (bs2.below (Nat.le_succ _) (by have := B1.out.size; omega))
  have R2 : Blk w2 w.heap.size 28 #[.slice none 0 0, .slice none 0 0] := R1.out.beside bs2 (by omega)
  have r0 := R2.at 0 (v := .slice none 0 0) rfl
  have r1 := R2.at 1 (v := .slice none 0 0) rfl
  have z0 := R2.frz 0
  have z1 := R2.frz 1
  have S2 := (R2.setTo 0 (.slice A2 ss.length c2) rfl).setTo 1 (.slice A3 ss.length c3) rfl
  have t0 := S2.at 0 (v := .slice A2 ss.length c2) rfl
  have t1 := S2.at 1 (v := .slice A3 ss.length c3) rfl
  obtain ⟨WF, hWF⟩ : ∃ WF, WF = (w2.setCell ⟨w.heap.size, 0, none⟩ (.slice A2 ss.length c2)).setCell ⟨w.heap.size, 1, none⟩ (.slice A3 ss.length c3) := ⟨_, rfl⟩
  have hg : w2.grownBy WF (some w.heap.size) := by rw [hWF]; exact grown_trans (Src.grown_setCell w2 ⟨w.heap.size, 0, none⟩ _) (Src.grown_setCell _ ⟨w.heap.size, 1, none⟩ _)
  have HRET : Hid (B10LabRet w (.returned (.agg #[.slice A2 ss.length c2, .slice A3 ss.length c3])) WF) := Lib.hid
    ⟨A2, A3, c2, c3, ss, rfl, hss, hgd, fun h0 => by
      obtain ⟨q, o, e, hq, hcs⟩ := hrd h0
      have hqb := hlo _ _ e
      exact ⟨q, o, e, Nat.lt_of_lt_of_le hq hg.size, fun i hi => (World.cell?_of_block (a := ⟨q, o + i, none⟩) (hg.block q hq (fun e2 => by injection e2 with e2; omega))).trans (hcs i hi)⟩,
     B2.grown hg B2.size (fun q e => by injection e with e; omega)⟩
  rw [hWF] at HRET
  clear S2 hWF hg hrd hgd hlo s2 bs2 B2 R2
  go_wp2
  exact bodyPost_ret (v := .agg #[.slice A2 ss.length c2, .slice A3 ss.length c3]) (by simp [results, Tryd.results6, go_sem, t0, t1]) rfl HRET.out
end Go.Proofs.YtpjepheiagllgaaDoor.LabD

/- The source of choices: next, pick, one. -/
import Derived.Test.YtcimmgpmkfbpdaaGreatDoorMgStr00
import Derived.Laws.BitsAllLaws
import Derived.IntWalk
import Derived.Lib.Builder
import Derived.StillTailTactics
import Derived.Test.YtcimmgpmkfbpdaaGreatDoorMgStr08
namespace Go.Proofs.YtcimmgpmkfbpdaaGreatDoor.Src
open Go.RowKit Go.Proofs.YtcimmgpmkfbpdaaGreatDoor Go.Proofs.YtcimmgpmkfbpdaaGreatDoor.Base Go.Proofs.YtcimmgpmkfbpdaaGreatDoor.Mem
set_option linter.unusedVariables false
structure Src (w : World) (p K : Nat) : Prop where
 ex : ∃ (A : Option Addr) (c : Nat) (zs : List Int) (at_ : Nat) (sd : Int), w.cell? ⟨p, 0, none⟩ = some (.slice A zs.length c) ∧ w.cell? ⟨p, 1, none⟩ = some (.int .i64 (at_ : Int)) ∧ w.cell? ⟨p, 2, none⟩ = some (.int .u64 sd) ∧
  (∀ i, w.frozen? ⟨p, i, none⟩ = false) ∧ at_ ≤ K ∧ 0 ≤ sd ∧ sd ≤ 18446744073709551615 ∧ zs.length ≤ 9223372036854775807 ∧ (∀ z ∈ zs, 0 ≤ z ∧ z ≤ 255) ∧ RdB w p A zs
theorem Src.lt {w : World} {p K : Nat} (h : Src w p K) : p < w.heap.size := by
 obtain ⟨A, c, zs, a, sd, h0, _⟩ := h.ex
 exact block_lt_of_cell h0
theorem RdB.keep {w w' : World} {B p : Nat} {A : Option Addr} {zs : List Int} (h : RdB w B A zs) (hB : B ≤ p) (hw : ∀ g, g < B → w'.heap[g]? = w.heap[g]?) : RdB w' B A zs := fun h0 => by
 obtain ⟨b, off, e, hlt, hc⟩ := h h0
 exact ⟨b, off, e, hlt, fun i hi => (World.cell?_of_block (a := ⟨b, off + i, none⟩) (hw b hlt)).trans (hc i hi)⟩
theorem Src.below {w w' : World} {p K : Nat} (h : Src w p K) (hb : Below w.heap.size w w') : Src w' p K := by
 have hp := h.lt
 obtain ⟨A, c, zs, a, sd, h0, h1, h2, hf, h3, h4, h5, h6, h7, h8⟩ := h.ex
 exact ⟨A, c, zs, a, sd, (hb.cell (p := ⟨p, 0, none⟩) hp).trans h0, (hb.cell (p := ⟨p, 1, none⟩) hp).trans h1, (hb.cell (p := ⟨p, 2, none⟩) hp).trans h2, fun i => (hb.frozen (p := ⟨p, i, none⟩) hp).trans (hf i), h3, h4, h5, h6, h7, h8.below hb (by omega)⟩
theorem Src.kept {w w' : World} {p K : Nat} {row : Option Nat} (h : Src w p K) (hg : w.grownBy w' row) (hr : ∀ g, row = some g → p < g) : Src w' p K := by
 have hp := h.lt
 have hk : ∀ g, g ≤ p → w'.heap[g]? = w.heap[g]? := fun g hgp => hg.block g (by omega) fun e => by have := hr g e.symm; omega
 obtain ⟨A, c, zs, a, sd, h0, h1, h2, hf, h3, h4, h5, h6, h7, h8⟩ := h.ex
 have hc : ∀ i, w'.cell? ⟨p, i, none⟩ = w.cell? ⟨p, i, none⟩ := fun i => World.cell?_of_block (a := ⟨p, i, none⟩) (hk p (Nat.le_refl _))
 exact ⟨A, c, zs, a, sd, (hc 0).trans h0, (hc 1).trans h1, (hc 2).trans h2, fun i => (World.frozen?_of_block (a := ⟨p, i, none⟩) (hk p (Nat.le_refl _))).trans (hf i), h3, h4, h5, h6, h7, RdB.keep h8 (Nat.le_refl _) fun g hg => hk g (by omega)⟩
theorem Src.more {w : World} {p K L : Nat} (h : Src w p K) (hKL : K ≤ L) : Src w p L := by
 obtain ⟨A, c, zs, a, sd, h0, h1, h2, hf, h3, h4⟩ := h.ex
 exact ⟨A, c, zs, a, sd, h0, h1, h2, hf, by omega, h4⟩
theorem grown_setCell (w : World) (a : Addr) (v : Value) : w.grownBy (w.setCell a v) (some a.block) := by
 refine ⟨rfl, rfl, rfl, by simp, fun k hk hne => ?_⟩
 have : k ≠ a.block := fun e => hne (by rw [e])
 simp [World.setCell, Array.getElem?_modify, Ne.symm this]
theorem grown_drewN (w : World) (n : Nat) (row : Option Nat) : w.grownBy (w.drewN n) row := ⟨rfl, rfl, rfl, Nat.le_refl _, fun _ _ _ => rfl⟩
theorem Src.set {w : World} {p K L a2 : Nat} {sd2 : Int} (h : Src w p K) (hL : a2 ≤ L) (hs : 0 ≤ sd2 ∧ sd2 ≤ 18446744073709551615) : Src ((w.setCell ⟨p, 1, none⟩ (.int .i64 (a2 : Int))).setCell ⟨p, 2, none⟩ (.int .u64 sd2)) p L ∧
  w.grownBy ((w.setCell ⟨p, 1, none⟩ (.int .i64 (a2 : Int))).setCell ⟨p, 2, none⟩ (.int .u64 sd2)) (some p) := by
 have hg := grown_trans (grown_setCell w ⟨p, 1, none⟩ (.int .i64 (a2 : Int))) (grown_setCell _ ⟨p, 2, none⟩ (.int .u64 sd2))
 refine ⟨?_, hg⟩
 obtain ⟨A, c, zs, a, sd, h0, h1, h2, hf, h3, h4, h5, h6, h7, h8⟩ := h.ex
 refine ⟨A, c, zs, a2, sd2, ?_, ?_, ?_, fun i => by simpa using hf i, hL, hs.1, hs.2, h6, h7, ?_⟩
 ·rw [World.cell?_setCell_other _ _ _ _ (by simp), World.cell?_setCell_other _ _ _ _ (by simp)]; exact h0
 ·rw [World.cell?_setCell_other _ _ _ _ (by simp)]; exact World.cell?_setCell_same _ _ _ h1
 ·refine World.cell?_setCell_same (u := .int .u64 sd) _ _ _ ?_
  rw [World.cell?_setCell_other _ _ _ _ (by simp)]; exact h2
 ·exact RdB.keep h8 (Nat.le_refl _) fun g hgp => hg.block g (by have := h.lt; omega) fun e => by
   have : g = p := Option.some.inj e
   omega
theorem Src.put {w : World} {p K L a a2 n : Nat} {sd2 : Int} {v : Value} (h : Src w p K) (hv : w.cell? ⟨p, 0, none⟩ = some v) (hL : a2 ≤ L) (hs : 0 ≤ sd2 ∧ sd2 ≤ 18446744073709551615) (w2 : World) (h2 : ((w.drewN n).setCell ⟨p, 1, none⟩ (.int .i64 (a2 : Int))).setCell ⟨p, 2, none⟩ (.int .u64 sd2) = w2) :
  Src w2 p L ∧ w.grownBy w2 (some p) ∧ w2.cell? ⟨p, 0, none⟩ = some v ∧ w2.cell? ⟨p, 1, none⟩ = some (.int .i64 (a2 : Int)) ∧ w2.cell? ⟨p, 2, none⟩ = some (.int .u64 sd2) := by
 have hd : Src (w.drewN n) p K := h.below (below_drewN (Below.refl _ _) n)
 obtain ⟨g1, g2⟩ := hd.set hL hs
 rw [h2] at g1 g2
 refine ⟨g1, grown_trans (grown_drewN w n _) g2, ?_, ?_, ?_⟩
 all_goals subst h2
 ·rw [World.cell?_setCell_other _ _ _ _ (by simp), World.cell?_setCell_other _ _ _ _ (by simp)]; simpa using hv
 ·obtain ⟨A, c, zs, a', sd, _, h1, _⟩ := hd.ex
  rw [World.cell?_setCell_other _ _ _ _ (by simp)]; exact World.cell?_setCell_same _ _ _ h1
 ·obtain ⟨A, c, zs, a', sd, _, _, h1, _⟩ := hd.ex
  refine World.cell?_setCell_same (u := .int .u64 sd) _ _ _ ?_
  rw [World.cell?_setCell_other _ _ _ _ (by simp)]; exact h1
end Go.Proofs.YtcimmgpmkfbpdaaGreatDoor.Src
namespace Go.Proofs.YtcimmgpmkfbpdaaGreatDoor.Blk
open Go.RowKit Go.Proofs.YtcimmgpmkfbpdaaGreatDoor Go.Proofs.YtcimmgpmkfbpdaaGreatDoor.Base Go.Proofs.YtcimmgpmkfbpdaaGreatDoor.Mem
set_option linter.unusedVariables false
def Blk (w : World) (b : Nat) (t : TypeId) (cs : Array Value) : Prop := w.heap[b]? = some (.cells cs t (0, 0))
section
variable {w w' : World} {b : Nat} {t : TypeId} {cs : Array Value}
theorem Blk.new (w : World) (t : TypeId) (cs : Array Value) : Blk (w.alloc (.cells cs t)) w.heap.size t cs := by
 unfold Blk
 show (w.heap.push _)[w.heap.size]? = _
 simp
theorem Blk.newAt {n : Nat} (t : TypeId) (cs : Array Value) (h : n = w.heap.size) : Blk (w.alloc (.cells cs t)) n t cs := h ▸ Blk.new w t cs
theorem Blk.lt (h : Blk w b t cs) : b < w.heap.size := by
 rcases Nat.lt_or_ge b w.heap.size with hlt | hge
 ·exact hlt
 ·unfold Blk at h; rw [Array.getElem?_eq_none hge] at h; cases h
theorem Blk.cell (h : Blk w b t cs) (i : Nat) : w.cell? ⟨b, i, none⟩ = cs[i]? := Lib.cell_of_heap h i
theorem Blk.at (h : Blk w b t cs) (i : Nat) {v : Value} (hv : cs[i]? = some v) : w.cell? ⟨b, i, none⟩ = some v := (h.cell i).trans hv
theorem Blk.frz (h : Blk w b t cs) (i : Nat) : w.frozen? ⟨b, i, none⟩ = false := Lib.frozen_of_heap h i
theorem Blk.below {B : Nat} (h : Blk w b t cs) (hb : Below B w w') (hB : b < B) : Blk w' b t cs := (hb.block b hB).trans h
theorem Blk.belowS (h : Blk w b t cs) (hb : Below w.heap.size w w') : Blk w' b t cs := h.below hb h.lt
theorem Blk.kept {row : Option Nat} (h : Blk w b t cs) (hg : w.grownBy w' row) (hne : row ≠ some b) : Blk w' b t cs := (hg.block b h.lt fun e => hne e.symm).trans h
theorem Blk.alloc (h : Blk w b t cs) (o : Obj) : Blk (w.alloc o) b t cs := h.belowS ((Below.refl _ _).alloc (Nat.le_refl _) _)
theorem Blk.drewN (h : Blk w b t cs) (n : Nat) : Blk (w.drewN n) b t cs := h
theorem Blk.drew (h : Blk w b t cs) : Blk w.drew b t cs := h
theorem Blk.set (h : Blk w b t cs) (i : Nat) (v : Value) : Blk (w.setCell ⟨b, i, none⟩ v) b t (cs.setIfInBounds i v) := by
 unfold Blk at *
 simp [World.setCell, Array.getElem?_modify, h]
theorem Blk.other (h : Blk w b t cs) {a : Addr} (v : Value) (hne : a.block ≠ b) : Blk (w.setCell a v) b t cs :=
 h.kept (Src.grown_setCell w a v) fun e => hne (Option.some.inj e)
theorem Blk.setTo {cs' : Array Value} (h : Blk w b t cs) (i : Nat) (v : Value) (hc : cs.setIfInBounds i v = cs') : Blk (w.setCell ⟨b, i, none⟩ v) b t cs' := hc ▸ h.set i v
end
end Go.Proofs.YtcimmgpmkfbpdaaGreatDoor.Blk
namespace Go.Proofs.YtcimmgpmkfbpdaaGreatDoor.Two
open Go.RowKit Go.Proofs.YtcimmgpmkfbpdaaGreatDoor Go.Proofs.YtcimmgpmkfbpdaaGreatDoor.Base Go.Proofs.YtcimmgpmkfbpdaaGreatDoor.Mem Go.Proofs.YtcimmgpmkfbpdaaGreatDoor.TwoM Go.Proofs.YtcimmgpmkfbpdaaGreatDoor.Blk
set_option linter.unusedVariables false
def two (t : Nat) : Value := .agg #[.int .u64 ((t / 18446744073709551616 : Nat) : Int), .int .u64 ((t % 18446744073709551616 : Nat) : Int)]
theorem u64_or (a b : Nat) (ha : a < 18446744073709551616) (hb : b < 18446744073709551616) : bits .or .u64 (a : Int) (b : Int) = ((a ||| b : Nat) : Int) := by
 have hx : a ||| b < 2 ^ 64 := Nat.or_lt_two_pow (by omega) (by omega)
 have e : ∀ z : Nat, z < 18446744073709551616 → (BitVec.ofInt 64 (z : Int)).toNat = z := fun z hz => by
  rw [BitVec.ofInt_natCast, BitVec.toNat_ofNat]; exact Nat.mod_eq_of_lt (by omega)
 show IntKind.u64.wrap ((BitVec.ofInt 64 (a : Int) ||| BitVec.ofInt 64 (b : Int)).toNat : Int) = _
 rw [BitVec.toNat_or, e a ha, e b hb, IntKind.wrap_u64]
 omega
theorem or_parts {a b k : Nat} (hb : b < 2 ^ k) (h : a * 2 ^ k + b < 18446744073709551616) : bits .or .u64 ((a * 2 ^ k : Nat) : Int) (b : Int) = ((a * 2 ^ k + b : Nat) : Int) := by
 rw [u64_or _ _ (by omega) (by omega)]
 have e := Nat.shiftLeft_add_eq_or_of_lt hb a
 rw [Nat.shiftLeft_eq] at e
 rw [e]
set_option maxHeartbeats 2000000 in
set_option maxRecDepth 100000 in
theorem times_any (x y : Nat) (hx : x ≤ 1000000000000000000) (hy : y ≤ 1000000000000000000) (w : World) : Calls Tryz.prog 82 #[.int .i64 (x : Int), .int .i64 (y : Int)] w fun e w' => e = .returned (two (x * y)) ∧ Below w.heap.size w w' := by
 obtain ⟨P, O, T, L, hP, hO, hT, hL, lP, lO, lT, lL, e1, e2⟩ := times_two x y (by omega) (by omega)
 unfold two
 rw [e1, e2]
 have rP : (x : Int) / 4294967296 * ((y : Int) / 4294967296) = (P : Int) := by rw [← hP]; simp
 have rO : (x : Int) / 4294967296 * ((y : Int) % 4294967296) = (O : Int) := by rw [← hO]; simp
 have rT : (x : Int) % 4294967296 * ((y : Int) / 4294967296) = (T : Int) := by rw [← hT]; simp
 have rL : (x : Int) % 4294967296 * ((y : Int) % 4294967296) = (L : Int) := by rw [← hL]; simp
 obtain ⟨L1, hL1⟩ : ∃ L1, L1 = L / 4294967296 := ⟨_, rfl⟩
 obtain ⟨L0, hL0⟩ : ∃ L0, L0 = L % 4294967296 := ⟨_, rfl⟩
 obtain ⟨O1, hO1⟩ : ∃ O1, O1 = O / 4294967296 := ⟨_, rfl⟩
 obtain ⟨O0, hO0⟩ : ∃ O0, O0 = O % 4294967296 := ⟨_, rfl⟩
 obtain ⟨T1, hT1⟩ : ∃ T1, T1 = T / 4294967296 := ⟨_, rfl⟩
 obtain ⟨T0, hT0⟩ : ∃ T0, T0 = T % 4294967296 := ⟨_, rfl⟩
 rw [← hL1, ← hL0, ← hO1, ← hO0, ← hT1, ← hT0]
 have r1 : (L : Int) / 4294967296 = (L1 : Int) := by omega
 have r2 : (L : Int) % 4294967296 = (L0 : Int) := by omega
 have r3 : (O : Int) / 4294967296 = (O1 : Int) := by omega
 have r4 : (O : Int) % 4294967296 = (O0 : Int) := by omega
 have r5 : (T : Int) / 4294967296 = (T1 : Int) := by omega
 have r6 : (T : Int) % 4294967296 = (T0 : Int) := by omega
 have b1 : L1 < 4294967296 := by omega
 have b2 : L0 < 4294967296 := by omega
 have b3 : O1 < 4294967296 := by omega
 have b4 : O0 < 4294967296 := by omega
 have b5 : T1 < 4294967296 := by omega
 have b6 : T0 < 4294967296 := by omega
 clear hL1 hL0 hO1 hO0 hT1 hT0 hP hO hT hL e1 e2
 obtain ⟨M, hM⟩ : ∃ M, M = L1 + O0 + T0 := ⟨_, rfl⟩
 obtain ⟨M1, hM1⟩ : ∃ M1, M1 = M / 4294967296 := ⟨_, rfl⟩
 obtain ⟨M0, hM0⟩ : ∃ M0, M0 = M % 4294967296 := ⟨_, rfl⟩
 rw [← hM, ← hM1, ← hM0]
 have c1 : M1 < 4294967296 := by omega
 have c2 : M0 < 4294967296 := by omega
 have s1 : IntKind.u64.wrap ((L1 : Int) + (O0 : Int)) = ((L1 + O0 : Nat) : Int) := by rw [IntKind.wrap_u64]; omega
 have s2 : IntKind.u64.wrap (((L1 + O0 : Nat) : Int) + (T0 : Int)) = (M : Int) := by rw [IntKind.wrap_u64]; omega
 have s3 : (M : Int) / 4294967296 = (M1 : Int) := by omega
 have t1 : IntKind.u64.wrap ((P : Int) + (O1 : Int)) = ((P + O1 : Nat) : Int) := by rw [IntKind.wrap_u64]; omega
 have t2 : IntKind.u64.wrap (((P + O1 : Nat) : Int) + (T1 : Int)) = ((P + O1 + T1 : Nat) : Int) := by rw [IntKind.wrap_u64]; omega
 have t3 : IntKind.u64.wrap (((P + O1 + T1 : Nat) : Int) + (M1 : Int)) = ((P + O1 + T1 + M1 : Nat) : Int) := by rw [IntKind.wrap_u64]; omega
 obtain ⟨A1, hA1⟩ : ∃ A1, A1 = L1 + O0 := ⟨_, rfl⟩
 obtain ⟨A2, hA2⟩ : ∃ A2, A2 = P + O1 := ⟨_, rfl⟩
 obtain ⟨A3, hA3⟩ : ∃ A3, A3 = A2 + T1 := ⟨_, rfl⟩
 obtain ⟨A4, hA4⟩ : ∃ A4, A4 = A3 + M1 := ⟨_, rfl⟩
 rw [← hA1] at s1 s2
 rw [← hA2] at t1 t2 t3
 rw [← hA3] at t2 t3
 rw [← hA4] at t3
 rw [← hA2, ← hA3, ← hA4]
 have HM := Lib.hid (And.intro hM (And.intro hM1 hM0))
 have hw : IntKind.u64.wrap ((M : Int) * 4294967296) = ((M0 * 2 ^ 32 : Nat) : Int) := by rw [IntKind.wrap_u64]; omega
 have hor := or_parts (a := M0) (b := L0) (k := 32) (by omega) (by omega)
 rw [← hw] at hor
 have hN : M0 * 4294967296 + L0 = M0 * 2 ^ 32 + L0 := by omega
 rw [hN]
 obtain ⟨N, hNe⟩ : ∃ N, N = M0 * 2 ^ 32 + L0 := ⟨_, rfl⟩
 rw [← hNe] at hor
 rw [← hNe]
 clear hw hN hNe
 clear hA1 hA2 hA3 hA4 hM hM1 hM0
 go_enter Tryz.func82, Tryz.ntmps82
 go_wp2
 go_quiet (fail)
 go_wp2
 go_quiet (fail)
 go_wp2
 go_quiet (fail)
 go_wp2
 go_quiet (fail)
 go_wp2
 rename_i n1 n2 n3 _ _
 obtain ⟨W, hW⟩ : ∃ W, W = (((((w.alloc (.cells #[.int .u64 0, .int .u64 0] 127)).drewN n1).drewN n2).drewN n3).drewN nq) := ⟨_, rfl⟩
 rw [← hW]
 have K : Blk W w.heap.size 127 #[.int .u64 0, .int .u64 0] := by rw [hW]; exact Blk.new w _ _
 have hB : Below w.heap.size w W := by rw [hW]; exact below_drewN (below_drewN (below_drewN (below_drewN ((Below.refl _ _).alloc (Nat.le_refl _) _) _) _) _) _
 have HK := Lib.hid K
 have HB := Lib.hid hB
 clear hW K hB
 (refine Tail.wp_region_quiet_tail (C := fun w' => ∃ n, w' = World.drewN W n) 26 (by kernel_rfl) (by kernel_rfl) ⟨1, rfl⟩ ?_; simp only [List.take_succ_cons, List.take_zero, List.drop_succ_cons, List.drop_zero]; (repeat (go_big_quiet_step (fail))); refine wpQuiet_nil ?_; rintro _ ⟨nq, rfl⟩)
 have S := ((HK.out.drewN nq).setTo 0 (.int .u64 (A4 : Int)) rfl).setTo 1 (.int .u64 (N : Int)) rfl
 have k0 := (HK.out.drewN nq).at 0 rfl
 have k1 := (HK.out.drewN nq).at 1 rfl
 have z0 := (HK.out.drewN nq).frz 0
 have z1 := (HK.out.drewN nq).frz 1
 have q0 := S.at 0 rfl
 have q1 := S.at 1 rfl
 go_wp2
 refine bodyPost_ret (v := .agg #[.int .u64 (A4 : Int), .int .u64 (N : Int)]) (by simp [results, Tryz.results82, go_sem, q0, q1]) rfl ⟨rfl, ?_⟩
 exact ((below_drewN HB.out nq).setCell (by simp) _).setCell (by simp) _
end Go.Proofs.YtcimmgpmkfbpdaaGreatDoor.Two
namespace Go.Proofs.YtcimmgpmkfbpdaaGreatDoor.Two
open Go.RowKit Go.Proofs.YtcimmgpmkfbpdaaGreatDoor Go.Proofs.YtcimmgpmkfbpdaaGreatDoor.Base Go.Proofs.YtcimmgpmkfbpdaaGreatDoor.Mem Go.Proofs.YtcimmgpmkfbpdaaGreatDoor.TwoM Go.Proofs.YtcimmgpmkfbpdaaGreatDoor.Blk
set_option linter.unusedVariables false
set_option maxHeartbeats 2000000 in
set_option maxRecDepth 100000 in
theorem less_any (t s : Nat) (w : World) : Calls Tryz.prog 83 #[two t, two s] w fun e w' => e = .returned (.bool (decide (t < s))) ∧ Below w.heap.size w w' := by
 unfold two
 have HE : Hid (t < s ↔ (t / 18446744073709551616 < s / 18446744073709551616 ∨ (t / 18446744073709551616 = s / 18446744073709551616 ∧ t % 18446744073709551616 < s % 18446744073709551616))) := Lib.hid (by omega)
 generalize t / 18446744073709551616 = th at *
 generalize t % 18446744073709551616 = tl at *
 generalize s / 18446744073709551616 = sh at *
 generalize s % 18446744073709551616 = sl at *
 have HB : Hid (Below w.heap.size w ((w.alloc (.cells #[.int .u64 (th : Int), .int .u64 (tl : Int)] 127)).alloc (.cells #[.int .u64 (sh : Int), .int .u64 (sl : Int)] 127))) := Lib.hid (((Below.refl _ _).alloc (Nat.le_refl _) _).alloc (by simp) _)
 rcases Nat.lt_trichotomy th sh with h | h | h
 ·have h1 : decide (th < sh) = true := decide_eq_true h
  have hr : decide (t < s) = true := decide_eq_true (HE.out.2 (.inl h))
  rw [hr]
  clear hr h
  go_enter Tryz.func83, Tryz.ntmps83
  go_wp2
  go_ret
  exact ⟨rfl, HB.out⟩
 ·subst h
  have h1 : decide (th < th) = false := decide_eq_false (by omega)
  have h2 : ((th : Int) == (th : Int)) = true := by simp
  have hr : decide (t < s) = decide (tl < sl) := by
   rw [Bool.eq_iff_iff, decide_eq_true_eq, decide_eq_true_eq, HE.out]; omega
  rw [hr]
  clear hr
  by_cases hl : tl < sl
  ·have h3 : decide (tl < sl) = true := decide_eq_true hl
   clear hl
   go_enter Tryz.func83, Tryz.ntmps83
   go_wp2
   go_ret
   exact ⟨ret_bool (by first | rfl | simp [h3]), HB.out⟩
  ·have h3 : decide (tl < sl) = false := decide_eq_false hl
   clear hl
   go_enter Tryz.func83, Tryz.ntmps83
   go_wp2
   go_ret
   exact ⟨ret_bool (by first | rfl | simp [h3]), HB.out⟩
 ·have h1 : decide (th < sh) = false := decide_eq_false (by omega)
  have h2 : ((th : Int) == (sh : Int)) = false := by simp only [beq_eq_false_iff_ne]; omega
  have hr : decide (t < s) = false := decide_eq_false (by rw [HE.out]; omega)
  rw [hr]
  clear hr h
  go_enter Tryz.func83, Tryz.ntmps83
  go_wp2
  go_ret
  exact ⟨rfl, HB.out⟩
set_option maxHeartbeats 2000000 in
set_option maxRecDepth 100000 in
theorem small_any (t : Nat) (w : World) : Calls Tryz.prog 142 #[two t] w fun e w' => e = .returned (.tuple #[.int .i64 ((if t ≤ 1000000000000000000 then t else 0 : Nat) : Int), .bool (decide (t ≤ 1000000000000000000))]) ∧ Below w.heap.size w w' := by
 unfold two
 have HE : Hid (t ≤ 1000000000000000000 ↔ (t / 18446744073709551616 = 0 ∧ t % 18446744073709551616 ≤ 1000000000000000000)) := Lib.hid (by omega)
 have HE2 : Hid (t ≤ 1000000000000000000 → t % 18446744073709551616 = t) := Lib.hid (by omega)
 generalize t / 18446744073709551616 = th at *
 generalize t % 18446744073709551616 = tl at *
 have HB : Hid (Below w.heap.size w (w.alloc (.cells #[.int .u64 (th : Int), .int .u64 (tl : Int)] 127))) := Lib.hid ((Below.refl _ _).alloc (Nat.le_refl _) _)
 by_cases h0 : th = 0
 ·subst h0
  by_cases hl : tl ≤ 1000000000000000000
  ·have hr := HE.out.2 ⟨rfl, hl⟩
   have hd : decide (t ≤ 1000000000000000000) = true := decide_eq_true hr
   rw [if_pos hr, hd]
   obtain rfl := HE2.out hr
   have h2 : ¬ 1000000000000000000 < tl := by omega
   clear hr hd
   go_enter Tryz.func142, Tryz.ntmps142
   go_wp2
   go_ret2
   exact ⟨rfl, HB.out⟩
  ·have hr : ¬ t ≤ 1000000000000000000 := by rw [HE.out]; omega
   have hd : decide (t ≤ 1000000000000000000) = false := decide_eq_false hr
   rw [if_neg hr, hd]
   have h2 : 1000000000000000000 < tl := by omega
   clear hr hd hl
   go_enter Tryz.func142, Tryz.ntmps142
   go_wp2
   go_ret2
   exact ⟨rfl, HB.out⟩
 ·have hr : ¬ t ≤ 1000000000000000000 := by rw [HE.out]; omega
  have hd : decide (t ≤ 1000000000000000000) = false := decide_eq_false hr
  rw [if_neg hr, hd]
  have h2 : 0 < th := by omega
  clear hr hd h0
  go_enter Tryz.func142, Tryz.ntmps142
  go_wp2
  go_ret2
  exact ⟨rfl, HB.out⟩
set_option maxHeartbeats 2000000 in
set_option maxRecDepth 100000 in
theorem plus_any (t s : Nat) (ht : t < 85070591730234615865843651857942052864) (hs : s < 85070591730234615865843651857942052864) (w : World) : Calls Tryz.prog 139 #[two t, two s] w fun e w' => e = .returned (two (t + s)) ∧ Below w.heap.size w w' := by
 unfold two
 have E1 : Hid ((t + s) / 18446744073709551616 = t / 18446744073709551616 + s / 18446744073709551616 + (t % 18446744073709551616 + s % 18446744073709551616) / 18446744073709551616) := Lib.hid (by omega)
 have E2 : Hid ((t + s) % 18446744073709551616 = (t % 18446744073709551616 + s % 18446744073709551616) % 18446744073709551616) := Lib.hid (by omega)
 rw [E1.out, E2.out]
 have b1 : t / 18446744073709551616 ≤ 4611686018427387904 := by omega
 have b2 : s / 18446744073709551616 ≤ 4611686018427387904 := by omega
 have b3 : t % 18446744073709551616 < 18446744073709551616 := Nat.mod_lt _ (by decide)
 have b4 : s % 18446744073709551616 < 18446744073709551616 := Nat.mod_lt _ (by decide)
 clear E1 E2 ht hs
 generalize t / 18446744073709551616 = th at *
 generalize t % 18446744073709551616 = tl at *
 generalize s / 18446744073709551616 = sh at *
 generalize s % 18446744073709551616 = sl at *
 obtain ⟨l, hl⟩ : ∃ l, l = (tl + sl) % 18446744073709551616 := ⟨_, rfl⟩
 rw [← hl]
 have hw : IntKind.u64.wrap ((tl : Int) + (sl : Int)) = (l : Int) := by rw [IntKind.wrap_u64]; omega
 have hB : ∀ c d, Below w.heap.size w ((((w.alloc (.cells #[.int .u64 (th : Int), .int .u64 (tl : Int)] 127)).alloc (.cells #[.int .u64 (sh : Int), .int .u64 (sl : Int)] 127)).alloc (.cells d 127)).alloc (.cells c 127)) := fun c d => ((((Below.refl _ _).alloc (Nat.le_refl _) _).alloc (by simp) _).alloc (by simp; omega) _).alloc (by simp; omega) _
 have HB := Lib.hid hB
 clear hB
 by_cases hc : 18446744073709551616 ≤ tl + sl
 ·have hlt : decide (l < tl) = true := decide_eq_true (by omega)
  have hd : (tl + sl) / 18446744073709551616 = 1 := by omega
  rw [hd]
  have HL := Lib.hid hl
  clear hl hd hc
  go_enter Tryz.func139, Tryz.ntmps139
  go_wp2
  exact bodyPost_ret (v := .agg #[.int .u64 ((th : Int) + (sh : Int) + 1), .int .u64 (l : Int)]) (by simp [results, Tryz.results139, go_sem]) rfl ⟨by simp, HB.out _ _⟩
 ·have hlt : decide (l < tl) = false := decide_eq_false (by omega)
  have hd : (tl + sl) / 18446744073709551616 = 0 := by omega
  rw [hd]
  have HL := Lib.hid hl
  clear hl hd hc
  go_enter Tryz.func139, Tryz.ntmps139
  go_wp2
  exact bodyPost_ret (v := .agg #[.int .u64 ((th : Int) + (sh : Int)), .int .u64 (l : Int)]) (by simp [results, Tryz.results139, go_sem]) rfl ⟨by simp, HB.out _ _⟩
set_option maxHeartbeats 2000000 in
set_option maxRecDepth 100000 in
theorem minus_any (t s : Nat) (ht : t < 85070591730234615865843651857942052864) (hs : s ≤ t) (w : World) : Calls Tryz.prog 140 #[two t, two s] w fun e w' => e = .returned (two (t - s)) ∧ Below w.heap.size w w' := by
 unfold two
 have b1 : t / 18446744073709551616 ≤ 4611686018427387904 := by omega
 have b2 : s / 18446744073709551616 ≤ t / 18446744073709551616 := by omega
 have b3 : t % 18446744073709551616 < 18446744073709551616 := Nat.mod_lt _ (by decide)
 have b4 : s % 18446744073709551616 < 18446744073709551616 := Nat.mod_lt _ (by decide)
 have E1 : Hid (t % 18446744073709551616 < s % 18446744073709551616 → (t - s) / 18446744073709551616 + s / 18446744073709551616 + 1 = t / 18446744073709551616 ∧ (t - s) % 18446744073709551616 = t % 18446744073709551616 + 18446744073709551616 - s % 18446744073709551616) := Lib.hid (by omega)
 have E2 : Hid (¬ t % 18446744073709551616 < s % 18446744073709551616 → (t - s) / 18446744073709551616 + s / 18446744073709551616 = t / 18446744073709551616 ∧ (t - s) % 18446744073709551616 = t % 18446744073709551616 - s % 18446744073709551616) := Lib.hid (by omega)
 clear ht hs
 generalize t / 18446744073709551616 = th at *
 generalize t % 18446744073709551616 = tl at *
 generalize s / 18446744073709551616 = sh at *
 generalize s % 18446744073709551616 = sl at *
 generalize (t - s) / 18446744073709551616 = rh at *
 generalize (t - s) % 18446744073709551616 = rl at *
 have hB : ∀ c d, Below w.heap.size w ((((w.alloc (.cells #[.int .u64 (th : Int), .int .u64 (tl : Int)] 127)).alloc (.cells #[.int .u64 (sh : Int), .int .u64 (sl : Int)] 127)).alloc (.cells d 127)).alloc (.cells c 127)) := fun c d => ((((Below.refl _ _).alloc (Nat.le_refl _) _).alloc (by simp) _).alloc (by simp; omega) _).alloc (by simp; omega) _
 have HB := Lib.hid hB
 clear hB
 by_cases hc : tl < sl
 ·obtain ⟨e1, e2⟩ := E1.out hc
  have hw : IntKind.u64.wrap ((tl : Int) - (sl : Int)) = (rl : Int) := by rw [IntKind.wrap_u64]; omega
  have hw2 : (th : Int) - (sh : Int) = (rh : Int) + 1 := by omega
  have b5 : rh ≤ 4611686018427387904 := by omega
  have hlt : decide (tl < sl) = true := decide_eq_true hc
  clear hc e1 e2 E1 E2
  go_enter Tryz.func140, Tryz.ntmps140
  go_wp2
  exact bodyPost_ret (v := .agg #[.int .u64 (rh : Int), .int .u64 (rl : Int)]) (by simp [results, Tryz.results140, go_sem]) rfl ⟨by simp, HB.out _ _⟩
 ·obtain ⟨e1, e2⟩ := E2.out hc
  have hw : IntKind.u64.wrap ((tl : Int) - (sl : Int)) = (rl : Int) := by rw [IntKind.wrap_u64]; omega
  have hw1 : (tl : Int) - (sl : Int) = (rl : Int) := by omega
  have hw2 : (th : Int) - (sh : Int) = (rh : Int) := by omega
  have b5 : rh ≤ 4611686018427387904 := by omega
  have hlt : decide (tl < sl) = false := decide_eq_false hc
  clear hc e1 e2 E1 E2
  go_enter Tryz.func140, Tryz.ntmps140
  go_wp2
  exact bodyPost_ret (v := .agg #[.int .u64 (rh : Int), .int .u64 (rl : Int)]) (by simp [results, Tryz.results140, go_sem]) rfl ⟨by simp, HB.out _ _⟩
end Go.Proofs.YtcimmgpmkfbpdaaGreatDoor.Two
namespace Go.Proofs.YtcimmgpmkfbpdaaGreatDoor.Two
open Go.RowKit Go.Proofs.YtcimmgpmkfbpdaaGreatDoor Go.Proofs.YtcimmgpmkfbpdaaGreatDoor.Base Go.Proofs.YtcimmgpmkfbpdaaGreatDoor.Mem Go.Proofs.YtcimmgpmkfbpdaaGreatDoor.TwoM Go.Proofs.YtcimmgpmkfbpdaaGreatDoor.Blk
set_option linter.unusedVariables false
def SpRel (t d : Nat) (w : World) (iv rv : Value) (wr : World) : Prop :=
 ∃ n q r : Nat, iv = .int .i64 ((n : Int) - 1) ∧ rv = .int .u64 (r : Int) ∧ n ≤ 128 ∧ r < d ∧ Hid (q = t / 2 ^ n / d) ∧ Hid (r = t / 2 ^ n % d) ∧
  Hid (Blk wr w.heap.size 127 #[.int .u64 ((t / 18446744073709551616 : Nat) : Int), .int .u64 ((t % 18446744073709551616 : Nat) : Int)]) ∧
  Hid (Blk wr (w.heap.size + 1) 127 #[.int .u64 0, .int .u64 0]) ∧
  Hid (Blk wr (w.heap.size + 1 + 1) 127 #[.int .u64 ((q / 18446744073709551616 : Nat) : Int), .int .u64 ((q % 18446744073709551616 : Nat) : Int)]) ∧ Hid (Below w.heap.size w wr)
theorem u64_and1 (x : Nat) (h : x < 18446744073709551616) : bits .and .u64 (x : Int) 1 = ((x % 2 : Nat) : Int) := by
 have := u64_and_nat x 1 h (by decide)
 rw [show ((1 : Nat) : Int) = 1 from rfl] at this
 rw [this, Nat.and_one_is_mod]
theorem SpRel.yes {t d m q r r2 qh ql nh nl : Nat} {w wr : World} (hm : m + 1 ≤ 128) (hqh : q / 18446744073709551616 = qh) (hql : q % 18446744073709551616 = ql) (hnh : nh = 2 * qh + ql / 9223372036854775808) (hnl : nl = 2 * ql % 18446744073709551616)
  (h1 : t / 2 ^ m / d = 2 * q + 1) (h2 : t / 2 ^ m % d = r2) (hd : 0 < d)
  (K0 : Blk wr w.heap.size 127 #[.int .u64 ((t / 18446744073709551616 : Nat) : Int), .int .u64 ((t % 18446744073709551616 : Nat) : Int)])
  (K1 : Blk wr (w.heap.size + 1) 127 #[.int .u64 0, .int .u64 0])
  (K2 : Blk wr (w.heap.size + 1 + 1) 127 #[.int .u64 (qh : Int), .int .u64 (ql : Int)]) (hb : Below w.heap.size w wr) :
  SpRel t d w (.int .i64 ((m : Int) - 1)) (.int .u64 (r2 : Int)) (((wr.setCell ⟨w.heap.size + 1 + 1, 0, none⟩ (.int .u64 (nh : Int))).setCell ⟨w.heap.size + 1 + 1, 1, none⟩ (.int .u64 (nl : Int))).setCell ⟨w.heap.size + 1 + 1, 1, none⟩ (.int .u64 ((nl + 1 : Nat) : Int))) := by
 refine ⟨m, 2 * q + 1, r2, rfl, rfl, by omega, by rw [← h2]; exact Nat.mod_lt _ hd, Lib.hid h1.symm, Lib.hid h2.symm, Lib.hid ?_, Lib.hid ?_, Lib.hid ?_, Lib.hid ?_⟩
 ·exact ((K0.other _ (by simp; omega)).other _ (by simp; omega)).other _ (by simp; omega)
 ·exact ((K1.other _ (by simp)).other _ (by simp)).other _ (by simp)
 ·rw [show (2 * q + 1) / 18446744073709551616 = nh by omega, show (2 * q + 1) % 18446744073709551616 = nl + 1 by omega]
  exact ((K2.setTo 0 _ rfl).setTo 1 _ rfl).setTo 1 _ rfl
 ·exact ((hb.setCell (by simp; omega) _).setCell (by simp; omega) _).setCell (by simp; omega) _
theorem SpRel.no {t d m q r r2 qh ql nh nl : Nat} {w wr : World} (hm : m + 1 ≤ 128) (hqh : q / 18446744073709551616 = qh) (hql : q % 18446744073709551616 = ql) (hnh : nh = 2 * qh + ql / 9223372036854775808) (hnl : nl = 2 * ql % 18446744073709551616)
  (h1 : t / 2 ^ m / d = 2 * q) (h2 : t / 2 ^ m % d = r2) (hd : 0 < d)
  (K0 : Blk wr w.heap.size 127 #[.int .u64 ((t / 18446744073709551616 : Nat) : Int), .int .u64 ((t % 18446744073709551616 : Nat) : Int)])
  (K1 : Blk wr (w.heap.size + 1) 127 #[.int .u64 0, .int .u64 0])
  (K2 : Blk wr (w.heap.size + 1 + 1) 127 #[.int .u64 (qh : Int), .int .u64 (ql : Int)]) (hb : Below w.heap.size w wr) :
  SpRel t d w (.int .i64 ((m : Int) - 1)) (.int .u64 (r2 : Int)) ((wr.setCell ⟨w.heap.size + 1 + 1, 0, none⟩ (.int .u64 (nh : Int))).setCell ⟨w.heap.size + 1 + 1, 1, none⟩ (.int .u64 (nl : Int))) := by
 refine ⟨m, 2 * q, r2, rfl, rfl, by omega, by rw [← h2]; exact Nat.mod_lt _ hd, Lib.hid h1.symm, Lib.hid h2.symm, Lib.hid ?_, Lib.hid ?_, Lib.hid ?_, Lib.hid ?_⟩
 ·exact (K0.other _ (by simp; omega)).other _ (by simp; omega)
 ·exact (K1.other _ (by simp)).other _ (by simp)
 ·rw [show (2 * q) / 18446744073709551616 = nh by omega, show (2 * q) % 18446744073709551616 = nl by omega]
  exact (K2.setTo 0 _ rfl).setTo 1 _ rfl
 ·exact (hb.setCell (by simp; omega) _).setCell (by simp; omega) _
set_option maxHeartbeats 2000000 in
set_option maxRecDepth 100000 in
theorem split_any (t d : Nat) (ht : t < 85070591730234615865843651857942052864) (hd : 0 < d) (hd2 : d ≤ 1000000000000000000) (w : World) : Calls Tryz.prog 141 #[two t, .int .i64 (d : Int)] w fun e w' => e = .returned (.tuple #[two (t / d), .int .i64 ((t % d : Nat) : Int)]) ∧ Below w.heap.size w w' := by
 have H0 : Hid (SpRel t d w (.int .i64 127) (.int .u64 0) (((w.alloc (.cells #[.int .u64 ((t / 18446744073709551616 : Nat) : Int), .int .u64 ((t % 18446744073709551616 : Nat) : Int)] 127)).alloc (.cells #[.int .u64 0, .int .u64 0] 127)).alloc (.cells #[.int .u64 0, .int .u64 0] 127))) := Lib.hid (by
  have hz : t / 2 ^ 128 = 0 := Nat.div_eq_of_lt (by omega)
  refine ⟨128, 0, 0, rfl, rfl, by omega, hd, Lib.hid (by rw [hz, Nat.zero_div]), Lib.hid (by rw [hz, Nat.zero_mod]), Lib.hid ?_, Lib.hid ?_, Lib.hid ?_, Lib.hid ?_⟩
  ·exact ((Blk.new w _ _).alloc _).alloc _
  ·exact (Blk.newAt _ _ (by simp)).alloc _
  ·exact Blk.newAt _ _ (by simp)
  ·exact (((Below.refl _ _).alloc (Nat.le_refl _) _).alloc (by simp) _).alloc (by simp; omega) _)
 have HT := Lib.hid ht
 have HD := Lib.hid hd
 have HS := Lib.hid (fun (m q r : Nat) (h1 : q = t / 2 ^ (m + 1) / d) (h2 : r = t / 2 ^ (m + 1) % d) => split_bit (t := t) (i := m) hd h1 h2)
 have HBH := Lib.hid (fun m => bit_high t m)
 have HBL := Lib.hid (fun m => bit_low t m)
 unfold two
 clear ht
 go_enter Tryz.func141, Tryz.ntmps141
 go_wp2
 go_loopw [8, 7] (fun iv rv wr => SpRel t d w iv rv wr) (fun iv _ _ => (intOf iv + 1).toNat)
 case atStart => exact H0.out
 case round =>
  obtain ⟨n, q, r, rfl, rfl, hn, hr, hq, hre, K0, K1, K2, HB⟩ := hrel
  clear H0
  by_cases hpos : 0 < n
  ·obtain ⟨m, rfl⟩ : ∃ m, n = m + 1 := ⟨n - 1, by omega⟩
   have e1 : (((m + 1 : Nat) : Int) - 1) = (m : Int) := by omega
   rw [e1]
   clear e1
   have a0 := K0.out.at 0 rfl
   have a1 := K0.out.at 1 rfl
   have q0 := K2.out.at 0 rfl
   have q1 := K2.out.at 1 rfl
   have z0 := K2.out.frz 0
   have z1 := K2.out.frz 1
   have hqb : Hid (q < 85070591730234615865843651857942052864) := Lib.hid (Nat.lt_of_le_of_lt (by rw [hq.out]; exact Nat.le_trans (Nat.div_le_self _ _) (Nat.div_le_self _ _)) HT.out)
   have hthb : t / 18446744073709551616 < 4611686018427387905 := by have := HT.out; omega
   have htlb : t % 18446744073709551616 < 18446744073709551616 := Nat.mod_lt _ (by decide)
   have hqhb : q / 18446744073709551616 < 4611686018427387905 := by have := hqb.out; omega
   have hqlb : q % 18446744073709551616 < 18446744073709551616 := Nat.mod_lt _ (by decide)
   have hX := HBH.out m
   have hY := HBL.out m
   have HST := Lib.hid (HS.out m q r hq.out hre.out)
   have HK := Lib.hid (And.intro K0.out (And.intro K1.out (And.intro K2.out HB.out)))
   obtain ⟨b, hb⟩ : ∃ b, b = t / 2 ^ m % 2 := ⟨_, rfl⟩
   rw [← hb] at hX hY HST
   have hb1 : b ≤ 1 := by omega
   have HX := Lib.hid hX
   have HY := Lib.hid hY
   clear hX hY hb hq hre K0 K1 K2 HB
   generalize hth : t / 18446744073709551616 = th at *
   generalize htl : t % 18446744073709551616 = tl at *
   rw [← hth, ← htl] at HK
   clear hth htl
   generalize hqh : q / 18446744073709551616 = qh at *
   generalize hql : q % 18446744073709551616 = ql at *
   have HQ := Lib.hid (And.intro hqh hql)
   clear hqh hql
   obtain ⟨nh, hnh⟩ : ∃ nh, nh = 2 * qh + ql / 9223372036854775808 := ⟨_, rfl⟩
   obtain ⟨nl, hnl⟩ : ∃ nl, nl = 2 * ql % 18446744073709551616 := ⟨_, rfl⟩
   have hor1 : bits .or .u64 ((qh : Int) * 2) ((ql : Int) / 9223372036854775808) = (nh : Int) := by
    have := or_parts (a := qh) (b := ql / 9223372036854775808) (k := 1) (by omega) (by omega)
    rw [show ((qh * 2 ^ 1 : Nat) : Int) = (qh : Int) * 2 by omega, show ((ql / 9223372036854775808 : Nat) : Int) = (ql : Int) / 9223372036854775808 by omega] at this
    rw [this, hnh]; omega
   have hwl : IntKind.u64.wrap ((ql : Int) * 2) = (nl : Int) := by rw [IntKind.wrap_u64]; omega
   have hor2 : bits .or .u64 (nl : Int) 1 = ((nl + 1 : Nat) : Int) := by
    have := or_parts (a := nl / 2) (b := 1) (k := 1) (by omega) (by omega)
    rw [show nl / 2 * 2 ^ 1 = nl by omega] at this
    exact this
   have hnlb : nl < 18446744073709551616 := by omega
   have HNH := Lib.hid (And.intro hnh hnl)
   clear hnh hnl
   by_cases h64 : 64 ≤ m
   ·have hand : bits .and .u64 ((th : Int) / 2 ^ (m - 64)) 1 = (b : Int) := by
     have := u64_and1 (th / 2 ^ (m - 64)) (Nat.lt_of_le_of_lt (Nat.div_le_self _ _) (by omega))
     rw [← HX.out h64] at this
     rw [← this]
     simp
    obtain ⟨S, hS⟩ : ∃ S, S = 2 * r + b := ⟨_, rfl⟩
    rw [← hS] at HST
    have hs1 : 2 * (r : Int) + (b : Int) = (S : Int) := by omega
    have hs2 : IntKind.u64.wrap (S : Int) = (S : Int) := by rw [IntKind.wrap_u64]; omega
    by_cases hc : d ≤ S
    ·obtain ⟨g1, g2⟩ := HST.out.1 hc
     obtain ⟨r2, hr2⟩ : ∃ r2, r2 = S - d := ⟨_, rfl⟩
     have hs3 : (S : Int) - (d : Int) = (r2 : Int) := by omega
     have HN := Lib.hid (SpRel.yes (r2 := r2) (r := r) hn HQ.out.1 HQ.out.2 HNH.out.1 HNH.out.2 g1 (by rw [g2, hr2]) HD.out HK.out.1 HK.out.2.1 HK.out.2.2.1 HK.out.2.2.2)
     have hge : decide (d ≤ S) = true := decide_eq_true hc
     clear g1 g2 hr2 HST hS
     go_wp2
     go_roundw
     case rel => exact HN.out
     case measure => simp [intOf]
    ·obtain ⟨g1, g2⟩ := HST.out.2 (by omega)
     have HN := Lib.hid (SpRel.no (r2 := S) (r := r) hn HQ.out.1 HQ.out.2 HNH.out.1 HNH.out.2 g1 g2 HD.out HK.out.1 HK.out.2.1 HK.out.2.2.1 HK.out.2.2.2)
     have hge : decide (d ≤ S) = false := decide_eq_false hc
     have hlt : (S : Int) < (d : Int) := by omega
     clear g1 g2 HST hS hc
     go_wp2
     go_roundw
     case rel => exact HN.out
     case measure => simp [intOf]
   ·have hand : bits .and .u64 ((tl : Int) / 2 ^ m) 1 = (b : Int) := by
     have := u64_and1 (tl / 2 ^ m) (Nat.lt_of_le_of_lt (Nat.div_le_self _ _) htlb)
     rw [← HY.out (by omega)] at this
     rw [← this]
     simp
    have hm64 : m % 64 = m := by omega
    obtain ⟨S, hS⟩ : ∃ S, S = 2 * r + b := ⟨_, rfl⟩
    rw [← hS] at HST
    have hs1 : 2 * (r : Int) + (b : Int) = (S : Int) := by omega
    have hs2 : IntKind.u64.wrap (S : Int) = (S : Int) := by rw [IntKind.wrap_u64]; omega
    by_cases hc : d ≤ S
    ·obtain ⟨g1, g2⟩ := HST.out.1 hc
     obtain ⟨r2, hr2⟩ : ∃ r2, r2 = S - d := ⟨_, rfl⟩
     have hs3 : (S : Int) - (d : Int) = (r2 : Int) := by omega
     have HN := Lib.hid (SpRel.yes (r2 := r2) (r := r) hn HQ.out.1 HQ.out.2 HNH.out.1 HNH.out.2 g1 (by rw [g2, hr2]) HD.out HK.out.1 HK.out.2.1 HK.out.2.2.1 HK.out.2.2.2)
     have hge : decide (d ≤ S) = true := decide_eq_true hc
     clear g1 g2 hr2 HST hS
     go_wp2
     go_roundw
     case rel => exact HN.out
     case measure => simp [intOf]
    ·obtain ⟨g1, g2⟩ := HST.out.2 (by omega)
     have HN := Lib.hid (SpRel.no (r2 := S) (r := r) hn HQ.out.1 HQ.out.2 HNH.out.1 HNH.out.2 g1 g2 HD.out HK.out.1 HK.out.2.1 HK.out.2.2.1 HK.out.2.2.2)
     have hge : decide (d ≤ S) = false := decide_eq_false hc
     have hlt : (S : Int) < (d : Int) := by omega
     clear g1 g2 HST hS hc
     go_wp2
     go_roundw
     case rel => exact HN.out
     case measure => simp [intOf]
  ·obtain rfl : n = 0 := by omega
   have hq0 : q = t / d := by have := hq.out; rwa [Nat.pow_zero, Nat.div_one] at this
   have hr0 : r = t % d := by have := hre.out; rwa [Nat.pow_zero, Nat.div_one] at this
   have q0 := K2.out.at 0 rfl
   have q1 := K2.out.at 1 rfl
   have p0 := K1.out.at 0 rfl
   have p1 := K1.out.at 1 rfl
   have z0 := K1.out.frz 0
   have z1 := K1.out.frz 1
   have HE := Lib.hid (And.intro hq0 hr0)
   have S := (K1.out.setTo 0 (.int .u64 ((q / 18446744073709551616 : Nat) : Int)) rfl).setTo 1 (.int .u64 ((q % 18446744073709551616 : Nat) : Int)) rfl
   have s0 := S.at 0 rfl
   have s1 := S.at 1 rfl
   have HB2 := Lib.hid HB.out
   clear hq0 hr0 hq hre K0 K1 K2 S HB
   generalize hqh : q / 18446744073709551616 = qh at *
   generalize hql : q % 18446744073709551616 = ql at *
   have HQ := Lib.hid (And.intro hqh hql)
   clear hqh hql
   go_wp2
   refine bodyPost_ret (v := .tuple #[.agg #[.int .u64 (qh : Int), .int .u64 (ql : Int)], .int .i64 (r : Int)]) (by simp [results, Tryz.results141, go_sem, s0, s1]) rfl ⟨?_, (HB2.out.setCell (by simp) _).setCell (by simp) _⟩
   rw [← HE.out.1, ← HE.out.2, HQ.out.1, HQ.out.2]
end Go.Proofs.YtcimmgpmkfbpdaaGreatDoor.Two

/- The program's ratios: zero, and which of two is less. -/
import Derived.Test.YtionognmgcabbaaGreatMgHit04
import Derived.Test.YtionognmgcabbaaGreatMgHit00
import Derived.Laws.BitsAllLaws
import Derived.IntWalk
import Derived.Lib.Builder
import Derived.StillTailTactics
import Derived.Test.YtionognmgcabbaaGreatMgHit03
import Derived.Test.YtionognmgcabbaaGreatMgHit01
namespace Go.Proofs.YtionognmgcabbaaGreat.Ratio
open Go.RowKit Go.Proofs.YtionognmgcabbaaGreat Go.Proofs.YtionognmgcabbaaGreat.Base Go.Proofs.YtionognmgcabbaaGreat.Mem Go.Proofs.YtionognmgcabbaaGreat.NatM Go.Proofs.YtionognmgcabbaaGreat.Nat32 Go.Proofs.YtionognmgcabbaaGreat.RatM
open Go.Proofs.YtionognmgcabbaaGreat.Inv (natOf natOf_eq len_pos Rat3 not_slice not_bool frz)
set_option linter.unusedVariables false
theorem rtZero (s : Bool) (k1 k2 c1 c2 : Nat) (A1 A2 : Option Addr) (w : World) : Calls Tryz.prog 141 #[.agg #[.bool s, .slice A1 k1 c1, .slice A2 k2 c2]] w fun e w' => e = .returned (.bool (decide (k1 = 0))) ∧ Below w.heap.size w w' := by
  have hb := (Below.refl w.heap.size w).alloc (Nat.le_refl _) (.cells #[.bool s, .slice A1 k1 c1, .slice A2 k2 c2] 87)
  have HB := Lib.hid hb
  clear hb
  rcases Nat.eq_zero_or_pos k1 with rfl | hk
  · go_enter Tryz.func141, Tryz.ntmps141
    go_wp2
    go_ret
    exact ⟨ret_bool (by simp), HB.out⟩
  · have hk0 : ((k1 : Int) == 0) = false := by simp only [beq_eq_false_iff_ne]; omega
    have hk1 : decide (k1 = 0) = false := decide_eq_false (by omega)
    go_enter Tryz.func141, Tryz.ntmps141
    go_wp2
    go_ret
    exact ⟨ret_bool (by first | exact hk1.symm | (simp; omega)), HB.out⟩
theorem zero_len (q : Rat) : (natL q.num.natAbs).length = 0 ↔ q = 0 := by
  constructor
  · intro h
    refine Classical.byContradiction fun hq => ?_
    have := len_pos (Nat.pos_of_ne_zero fun e => hq ((zero_iff q).2 e))
    omega
  · intro h
    rw [h, show (0 : Rat).num.natAbs = 0 from rfl, natL_zero]; rfl
theorem ratZero {q : Rat} {v : Value} (w : World) (hv : IsRt w q v) : Calls Tryz.prog 141 #[v] w fun e w' => e = .returned (.bool (decide (q = 0))) ∧ Below w.heap.size w w' := by
  obtain ⟨A1, c1, A2, c2, rfl, _, _⟩ := hv
  have := rtZero (decide (q < 0)) (natL q.num.natAbs).length (natL q.den).length c1 c2 A1 A2 w
  rw [show decide ((natL q.num.natAbs).length = 0) = decide (q = 0) by simp only [zero_len]] at this
  exact this
/-- which of two rationals is less -/
def cmpQ (q r : Rat) : Int := if q = r then 0 else if q < r then -1 else 1
set_option maxHeartbeats 2000000 in
set_option maxRecDepth 100000 in
theorem ratCompare {q r : Rat} {v u : Value} (w : World) (hv : IsRt w q v) (hu : IsRt w r u) (hq : szR q ≤ 200000) (hr : szR r ≤ 200000) : Calls Tryz.prog 76 #[v, u] w fun e w' => e = .returned (.int .i64 (cmpQ q r)) ∧ Below w.heap.size w w' := by
  have hb0 : ∀ v1 v2 v3 u1 u2 u3 : Value, Below w.heap.size w ((w.alloc (.cells #[v1, v2, v3] 87)).alloc (.cells #[u1, u2, u3] 87)) := fun _ _ _ _ _ _ => ((Below.refl _ _).alloc (Nat.le_refl _) _).alloc (by simp) _
  obtain ⟨W2, hW2, bW⟩ : ∃ W2, (∃ A1 c1 A2 c2 A3 c3 A4 c4, v = .agg #[.bool (decide (q < 0)), .slice A1 (natL q.num.natAbs).length c1, .slice A2 (natL q.den).length c2] ∧ u = .agg #[.bool (decide (r < 0)), .slice A3 (natL r.num.natAbs).length c3, .slice A4 (natL r.den).length c4] ∧ W2 = (w.alloc (.cells #[.bool (decide (q < 0)), .slice A1 (natL q.num.natAbs).length c1, .slice A2 (natL q.den).length c2] 87)).alloc (.cells #[.bool (decide (r < 0)), .slice A3 (natL r.num.natAbs).length c3, .slice A4 (natL r.den).length c4] 87)) ∧ Below w.heap.size w W2 := by
    obtain ⟨A1, c1, A2, c2, e1, _, _⟩ := hv
    obtain ⟨A3, c3, A4, c4, e2, _, _⟩ := hu
    exact ⟨_, ⟨A1, c1, A2, c2, A3, c3, A4, c4, e1, e2, rfl⟩, hb0 _ _ _ _ _ _⟩
  have HM := Lib.hid (ratMinus W2 (hv.below bW) (hu.below bW) hq hr)
  obtain ⟨A1, c1, A2, c2, A3, c3, A4, c4, rfl, rfl, hW⟩ := hW2
  have HW := Lib.hid hW
  have HB := Lib.hid bW
  have hc : cmpQ q r = if q - r = 0 then 0 else if q - r < 0 then -1 else 1 := by
    unfold cmpQ
    have h1 : q - r = 0 ↔ q = r := by constructor <;> intro h <;> grind
    have h2 : q - r < 0 ↔ q < r := by constructor <;> intro h <;> grind
    simp only [h1, h2]
  have HC := Lib.hid hc
  clear hW bW hv hu hq hr hb0 hc
  generalize cmpQ q r = cv at *
  generalize q - r = d at *
  generalize decide (q < 0) = s at *
  generalize decide (r < 0) = s' at *
  generalize (natL q.num.natAbs).length = k1 at *
  generalize (natL q.den).length = k2 at *
  generalize (natL r.num.natAbs).length = k3 at *
  generalize (natL r.den).length = k4 at *
  go_enter Tryz.func76, Tryz.ntmps76
  go_wp2_with fail
  rw [← HW.out]
  refine HM.out.mono ?_
  rintro e w3 ⟨A5, c5, A6, c6, rfl, h5, h6, hb3⟩
  have HB3 := Lib.hid (HB.out.trans (hb3.mono HB.out.size))
  have HZ := Lib.hid (fun W => rtZero (decide (d < 0)) (natL d.num.natAbs).length (natL d.den).length c5 c6 A5 A6 W)
  have HZL : Hid (decide ((natL d.num.natAbs).length = 0) = decide (d = 0)) := Lib.hid (by simp only [zero_len])
  rw [HZL.out] at HZ
  clear h5 h6 hb3
  go_wp2_with fail
  refine (HZ.out _).mono ?_
  rintro e w4 ⟨rfl, hb4⟩
  have HB4 := Lib.hid ((HB3.out.alloc HB3.out.size (.cells #[.bool (decide (d < 0)), .slice A5 (natL d.num.natAbs).length c5, .slice A6 (natL d.den).length c6] 87)).trans (hb4.mono (by have := HB3.out.size; simp; omega)))
  have d0 : w4.cell? ⟨w3.heap.size, 0, none⟩ = some (.bool (decide (d < 0))) := box_cells hb4 0
  clear hb4
  by_cases hz : d = 0
  · have hzb : decide (d = 0) = true := decide_eq_true hz
    have hcv : cv = 0 := by rw [HC.out, if_pos hz]
    subst hcv
    generalize decide (d < 0) = sd at *
    clear hz
    go_wp2
    go_ret
    exact ⟨rfl, HB4.out⟩
  · have hzb : decide (d = 0) = false := decide_eq_false hz
    by_cases hl : d < 0
    · have hlb : decide (d < 0) = true := decide_eq_true hl
      have hcv : cv = -1 := by rw [HC.out, if_neg hz, if_pos hl]
      subst hcv
      clear hz hl
      go_wp2
      go_ret
      exact ⟨rfl, HB4.out⟩
    · have hlb : decide (d < 0) = false := decide_eq_false hl
      have hcv : cv = 1 := by rw [HC.out, if_neg hz, if_neg hl]
      subst hcv
      clear hz hl
      go_wp2
      go_ret
      exact ⟨rfl, HB4.out⟩
end Go.Proofs.YtionognmgcabbaaGreat.Ratio
/- The source of choices: next, pick, one. -/
namespace Go.Proofs.YtionognmgcabbaaGreat.Src
open Go.RowKit Go.Proofs.YtionognmgcabbaaGreat Go.Proofs.YtionognmgcabbaaGreat.Base Go.Proofs.YtionognmgcabbaaGreat.Mem
set_option linter.unusedVariables false
/-- a source, of at most K choices so far -/
structure Src (w : World) (p K : Nat) : Prop where
  ex : ∃ (A : Option Addr) (c : Nat) (zs : List Int) (at_ : Nat) (sd : Int), w.cell? ⟨p, 0, none⟩ = some (.slice A zs.length c) ∧ w.cell? ⟨p, 1, none⟩ = some (.int .i64 (at_ : Int)) ∧ w.cell? ⟨p, 2, none⟩ = some (.int .u64 sd) ∧
    (∀ i, w.frozen? ⟨p, i, none⟩ = false) ∧ at_ ≤ K ∧ 0 ≤ sd ∧ sd ≤ 18446744073709551615 ∧ zs.length ≤ 9223372036854775807 ∧ (∀ z ∈ zs, 0 ≤ z ∧ z ≤ 255) ∧ RdB w p A zs
theorem Src.lt {w : World} {p K : Nat} (h : Src w p K) : p < w.heap.size := by
  obtain ⟨A, c, zs, a, sd, h0, _⟩ := h.ex
  exact block_lt_of_cell h0
theorem RdB.keep {w w' : World} {B p : Nat} {A : Option Addr} {zs : List Int} (h : RdB w B A zs) (hB : B ≤ p) (hw : ∀ g, g < B → w'.heap[g]? = w.heap[g]?) : RdB w' B A zs := fun h0 => by
  obtain ⟨b, off, e, hlt, hc⟩ := h h0
  exact ⟨b, off, e, hlt, fun i hi => (World.cell?_of_block (a := ⟨b, off + i, none⟩) (hw b hlt)).trans (hc i hi)⟩
theorem Src.below {w w' : World} {p K : Nat} (h : Src w p K) (hb : Below w.heap.size w w') : Src w' p K := by
  have hp := h.lt
  obtain ⟨A, c, zs, a, sd, h0, h1, h2, hf, h3, h4, h5, h6, h7, h8⟩ := h.ex
  exact ⟨A, c, zs, a, sd, (hb.cell (p := ⟨p, 0, none⟩) hp).trans h0, (hb.cell (p := ⟨p, 1, none⟩) hp).trans h1, (hb.cell (p := ⟨p, 2, none⟩) hp).trans h2, fun i => (hb.frozen (p := ⟨p, i, none⟩) hp).trans (hf i), h3, h4, h5, h6, h7, h8.below hb (by omega)⟩
theorem Src.kept {w w' : World} {p K : Nat} {row : Option Nat} (h : Src w p K) (hg : w.grownBy w' row) (hr : ∀ g, row = some g → p < g) : Src w' p K := by
  have hp := h.lt
  have hk : ∀ g, g ≤ p → w'.heap[g]? = w.heap[g]? := fun g hgp => hg.block g (by omega) fun e => by have := hr g e.symm; omega
  obtain ⟨A, c, zs, a, sd, h0, h1, h2, hf, h3, h4, h5, h6, h7, h8⟩ := h.ex
  have hc : ∀ i, w'.cell? ⟨p, i, none⟩ = w.cell? ⟨p, i, none⟩ := fun i => World.cell?_of_block (a := ⟨p, i, none⟩) (hk p (Nat.le_refl _))
  exact ⟨A, c, zs, a, sd, (hc 0).trans h0, (hc 1).trans h1, (hc 2).trans h2, fun i => (World.frozen?_of_block (a := ⟨p, i, none⟩) (hk p (Nat.le_refl _))).trans (hf i), h3, h4, h5, h6, h7, RdB.keep h8 (Nat.le_refl _) fun g hg => hk g (by omega)⟩
theorem Src.more {w : World} {p K L : Nat} (h : Src w p K) (hKL : K ≤ L) : Src w p L := by
  obtain ⟨A, c, zs, a, sd, h0, h1, h2, hf, h3, h4⟩ := h.ex
  exact ⟨A, c, zs, a, sd, h0, h1, h2, hf, by omega, h4⟩
theorem grown_setCell (w : World) (a : Addr) (v : Value) : w.grownBy (w.setCell a v) (some a.block) := by
  refine ⟨rfl, rfl, rfl, by simp, fun k hk hne => ?_⟩
  have : k ≠ a.block := fun e => hne (by rw [e])
  simp [World.setCell, Array.getElem?_modify, Ne.symm this]
theorem grown_drewN (w : World) (n : Nat) (row : Option Nat) : w.grownBy (w.drewN n) row := ⟨rfl, rfl, rfl, Nat.le_refl _, fun _ _ _ => rfl⟩
theorem Src.set {w : World} {p K L a2 : Nat} {sd2 : Int} (h : Src w p K) (hL : a2 ≤ L) (hs : 0 ≤ sd2 ∧ sd2 ≤ 18446744073709551615) : Src ((w.setCell ⟨p, 1, none⟩ (.int .i64 (a2 : Int))).setCell ⟨p, 2, none⟩ (.int .u64 sd2)) p L ∧
    w.grownBy ((w.setCell ⟨p, 1, none⟩ (.int .i64 (a2 : Int))).setCell ⟨p, 2, none⟩ (.int .u64 sd2)) (some p) := by
  have hg := grown_trans (grown_setCell w ⟨p, 1, none⟩ (.int .i64 (a2 : Int))) (grown_setCell _ ⟨p, 2, none⟩ (.int .u64 sd2))
  refine ⟨?_, hg⟩
  obtain ⟨A, c, zs, a, sd, h0, h1, h2, hf, h3, h4, h5, h6, h7, h8⟩ := h.ex
  refine ⟨A, c, zs, a2, sd2, ?_, ?_, ?_, fun i => by simpa using hf i, hL, hs.1, hs.2, h6, h7, ?_⟩
  · rw [World.cell?_setCell_other _ _ _ _ (by simp), World.cell?_setCell_other _ _ _ _ (by simp)]; exact h0
  · rw [World.cell?_setCell_other _ _ _ _ (by simp)]; exact World.cell?_setCell_same _ _ _ h1
  · refine World.cell?_setCell_same (u := .int .u64 sd) _ _ _ ?_
    rw [World.cell?_setCell_other _ _ _ _ (by simp)]; exact h2
  · exact RdB.keep h8 (Nat.le_refl _) fun g hgp => hg.block g (by have := h.lt; omega) fun e => by
      have : g = p := Option.some.inj e
      omega
/-- what holds behind the two stores -/
theorem Src.put {w : World} {p K L a a2 n : Nat} {sd2 : Int} {v : Value} (h : Src w p K) (hv : w.cell? ⟨p, 0, none⟩ = some v) (hL : a2 ≤ L) (hs : 0 ≤ sd2 ∧ sd2 ≤ 18446744073709551615) (w2 : World) (h2 : ((w.drewN n).setCell ⟨p, 1, none⟩ (.int .i64 (a2 : Int))).setCell ⟨p, 2, none⟩ (.int .u64 sd2) = w2) :
    Src w2 p L ∧ w.grownBy w2 (some p) ∧ w2.cell? ⟨p, 0, none⟩ = some v ∧ w2.cell? ⟨p, 1, none⟩ = some (.int .i64 (a2 : Int)) ∧ w2.cell? ⟨p, 2, none⟩ = some (.int .u64 sd2) := by
  have hd : Src (w.drewN n) p K := h.below (below_drewN (Below.refl _ _) n)
  obtain ⟨g1, g2⟩ := hd.set hL hs
  rw [h2] at g1 g2
  refine ⟨g1, grown_trans (grown_drewN w n _) g2, ?_, ?_, ?_⟩
  all_goals subst h2
  · rw [World.cell?_setCell_other _ _ _ _ (by simp), World.cell?_setCell_other _ _ _ _ (by simp)]; simpa using hv
  · obtain ⟨A, c, zs, a', sd, _, h1, _⟩ := hd.ex
    rw [World.cell?_setCell_other _ _ _ _ (by simp)]; exact World.cell?_setCell_same _ _ _ h1
  · obtain ⟨A, c, zs, a', sd, _, _, h1, _⟩ := hd.ex
    refine World.cell?_setCell_same (u := .int .u64 sd) _ _ _ ?_
    rw [World.cell?_setCell_other _ _ _ _ (by simp)]; exact h1
end Go.Proofs.YtionognmgcabbaaGreat.Src
/- A block of cells of the call's own: what its cells hold, however they are written. -/
namespace Go.Proofs.YtionognmgcabbaaGreat.Blk
open Go.RowKit Go.Proofs.YtionognmgcabbaaGreat Go.Proofs.YtionognmgcabbaaGreat.Base Go.Proofs.YtionognmgcabbaaGreat.Mem
set_option linter.unusedVariables false
/-- block b holds the cells cs, and may be written -/
def Blk (w : World) (b : Nat) (t : TypeId) (cs : Array Value) : Prop := w.heap[b]? = some (.cells cs t (0, 0))
section
variable {w w' : World} {b : Nat} {t : TypeId} {cs : Array Value}
theorem Blk.new (w : World) (t : TypeId) (cs : Array Value) : Blk (w.alloc (.cells cs t)) w.heap.size t cs := by
  unfold Blk
  show (w.heap.push _)[w.heap.size]? = _
  simp
theorem Blk.newAt {n : Nat} (t : TypeId) (cs : Array Value) (h : n = w.heap.size) : Blk (w.alloc (.cells cs t)) n t cs := h ▸ Blk.new w t cs
theorem Blk.lt (h : Blk w b t cs) : b < w.heap.size := by
  rcases Nat.lt_or_ge b w.heap.size with hlt | hge
  · exact hlt
  · unfold Blk at h; rw [Array.getElem?_eq_none hge] at h; cases h
theorem Blk.cell (h : Blk w b t cs) (i : Nat) : w.cell? ⟨b, i, none⟩ = cs[i]? := Lib.cell_of_heap h i
theorem Blk.at (h : Blk w b t cs) (i : Nat) {v : Value} (hv : cs[i]? = some v) : w.cell? ⟨b, i, none⟩ = some v := (h.cell i).trans hv
theorem Blk.frz (h : Blk w b t cs) (i : Nat) : w.frozen? ⟨b, i, none⟩ = false := Lib.frozen_of_heap h i
theorem Blk.below {B : Nat} (h : Blk w b t cs) (hb : Below B w w') (hB : b < B) : Blk w' b t cs := (hb.block b hB).trans h
theorem Blk.belowS (h : Blk w b t cs) (hb : Below w.heap.size w w') : Blk w' b t cs := h.below hb h.lt
theorem Blk.kept {row : Option Nat} (h : Blk w b t cs) (hg : w.grownBy w' row) (hne : row ≠ some b) : Blk w' b t cs := (hg.block b h.lt fun e => hne e.symm).trans h
theorem Blk.alloc (h : Blk w b t cs) (o : Obj) : Blk (w.alloc o) b t cs := h.belowS ((Below.refl _ _).alloc (Nat.le_refl _) _)
theorem Blk.drewN (h : Blk w b t cs) (n : Nat) : Blk (w.drewN n) b t cs := h
theorem Blk.drew (h : Blk w b t cs) : Blk w.drew b t cs := h
theorem Blk.set (h : Blk w b t cs) (i : Nat) (v : Value) : Blk (w.setCell ⟨b, i, none⟩ v) b t (cs.setIfInBounds i v) := by
  unfold Blk at *
  simp [World.setCell, Array.getElem?_modify, h]
theorem Blk.other (h : Blk w b t cs) {a : Addr} (v : Value) (hne : a.block ≠ b) : Blk (w.setCell a v) b t cs :=
  h.kept (Src.grown_setCell w a v) fun e => hne (Option.some.inj e)
theorem Blk.setTo {cs' : Array Value} (h : Blk w b t cs) (i : Nat) (v : Value) (hc : cs.setIfInBounds i v = cs') : Blk (w.setCell ⟨b, i, none⟩ v) b t cs' := hc ▸ h.set i v
/-- three cells laid anew -/
def put3 (w : World) (b : Nat) (v0 v1 v2 : Value) : World := ((w.setCell ⟨b, 0, none⟩ v0).setCell ⟨b, 1, none⟩ v1).setCell ⟨b, 2, none⟩ v2
end
/-- blocks of w other than p are as they were -/
structure Beside (p : Nat) (w w' : World) : Prop where
  os : w'.os = w.os
  tape : w'.tape = w.tape
  output : w'.output = w.output
  size : w.heap.size ≤ w'.heap.size
  same : ∀ q, q < w.heap.size → q ≠ p → w'.heap[q]? = w.heap[q]?
theorem Beside.refl (p : Nat) (w : World) : Beside p w w := ⟨rfl, rfl, rfl, Nat.le_refl _, fun _ _ _ => rfl⟩
theorem Beside.trans {p : Nat} {a b c : World} (h : Beside p a b) (k : Beside p b c) : Beside p a c :=
  ⟨k.os.trans h.os, k.tape.trans h.tape, k.output.trans h.output, Nat.le_trans h.size k.size, fun q h1 h2 => (k.same q (Nat.lt_of_lt_of_le h1 h.size) h2).trans (h.same q h1 h2)⟩
theorem Beside.grown {p : Nat} {w w' : World} (h : w.grownBy w' (some p)) : Beside p w w' := ⟨h.os, h.tape, h.output, h.size, fun q h1 h2 => h.block q h1 fun e => h2 (Option.some.inj e)⟩
theorem Beside.ofBelow {p : Nat} {w w' : World} (h : Below w.heap.size w w') : Beside p w w' := ⟨h.os, h.tape, h.output, h.size, fun q h1 _ => h.block q h1⟩
theorem Beside.below {p B : Nat} {w w' : World} (h : Beside p w w') (hp : B ≤ p) (hB : B ≤ w.heap.size) : Below B w w' := ⟨h.os, h.tape, h.output, h.size, fun q hq => h.same q (by omega) (by omega)⟩
theorem Beside.alloc {p : Nat} {w w' : World} (h : Beside p w w') (o : Obj) : Beside p w (w'.alloc o) := h.trans (Beside.ofBelow ((Below.refl _ _).alloc (Nat.le_refl _) o))
theorem Beside.drewN {p : Nat} {w w' : World} (h : Beside p w w') (n : Nat) : Beside p w (w'.drewN n) := h.trans (Beside.ofBelow (below_drewN (Below.refl _ _) n))
theorem Beside.drew {p : Nat} {w w' : World} (h : Beside p w w') : Beside p w w'.drew := h.drewN 1
/-- a store into a block that is younger than w -/
theorem Beside.set {p : Nat} {w w' : World} (h : Beside p w w') {a : Addr} (ha : w.heap.size ≤ a.block) (v : Value) : Beside p w (w'.setCell a v) := by
  have g := Src.grown_setCell w' a v
  exact ⟨g.os.trans h.os, g.tape.trans h.tape, g.output.trans h.output, Nat.le_trans h.size g.size, fun q h1 h2 => (g.block q (Nat.lt_of_lt_of_le h1 h.size) fun e => by have := Option.some.inj e; omega).trans (h.same q h1 h2)⟩
theorem Blk.beside {p b : Nat} {t : TypeId} {cs : Array Value} {w w' : World} (h : Blk w b t cs) (hb : Beside p w w') (hne : b ≠ p) : Blk w' b t cs := (hb.same b h.lt hne).trans h
end Go.Proofs.YtionognmgcabbaaGreat.Blk
/- Lists of the program's ratios in memory: three cells an element; pushing, reading. -/
namespace Go.Proofs.YtionognmgcabbaaGreat.Ratio
open Go.RowKit Go.Proofs.YtionognmgcabbaaGreat Go.Proofs.YtionognmgcabbaaGreat.Base Go.Proofs.YtionognmgcabbaaGreat.Mem Go.Proofs.YtionognmgcabbaaGreat.NatM Go.Proofs.YtionognmgcabbaaGreat.Nat32 Go.Proofs.YtionognmgcabbaaGreat.RatM Go.Proofs.YtionognmgcabbaaGreat.Blk
open Go.Proofs.YtionognmgcabbaaGreat.Inv (natOf natOf_eq len_pos Rat3 not_slice not_bool frz)
set_option linter.unusedVariables false
/-- digits that lie in another block than a row's -/
def Apart (own : Option Nat) (A : Option Addr) : Prop := ∀ a, A = some a → own ≠ some a.block
theorem rdU_kept {w w' : World} {own : Option Nat} {A : Option Addr} {xs : List Nat} (h : RdU w w.heap.size A xs) (hg : w.grownBy w' own) (ha : Apart own A) : RdU w' w'.heap.size A xs := fun h0 => by
  obtain ⟨b, off, rfl, hlt, hc⟩ := h h0
  refine ⟨b, off, rfl, Nat.lt_of_lt_of_le hlt hg.size, fun i hi => ?_⟩
  have := hc i hi
  rw [← this]
  exact World.cell?_of_block (hg.block b hlt (fun e => ha _ rfl e.symm))
theorem rdU_below {w w' : World} {A : Option Addr} {xs : List Nat} (h : RdU w w.heap.size A xs) (hb : Below w.heap.size w w') : RdU w' w'.heap.size A xs := (h.below hb (Nat.le_refl _)).more hb.size
def rt3 (q : Rat) (A1 A2 : Option Addr) (c1 c2 : Nat) : List Value := [.bool (decide (q < 0)), .slice A1 (natL q.num.natAbs).length c1, .slice A2 (natL q.den).length c2]
/-- an element of the cells cs is a ratio; own is the row's own block -/
def ElR (w : World) (own : Option Nat) (cs : List Value) (i : Nat) (q : Rat) : Prop :=
  ∃ A1 c1 A2 c2, (cs.drop (i * 3)).take 3 = rt3 q A1 A2 c1 c2 ∧ RdU w w.heap.size A1 (natL q.num.natAbs) ∧ RdU w w.heap.size A2 (natL q.den) ∧ (0 < (natL q.num.natAbs).length → Apart own A1) ∧ (0 < (natL q.den).length → Apart own A2)
structure OwnR (w : World) (B : Nat) (v : Value) (n : Nat) (f : Nat → Rat) (cs : List Value) : Prop where
  row : w.ownsRow B 87 3 v n cs
  els : ∀ i, i < n → ElR w v.ownBlock cs i (f i)
theorem ElR.below {w w' : World} {own : Option Nat} {cs : List Value} {i : Nat} {q : Rat} (h : ElR w own cs i q) (hb : Below w.heap.size w w') : ElR w' own cs i q := by
  obtain ⟨A1, c1, A2, c2, e, h1, h2, h3, h4⟩ := h
  exact ⟨A1, c1, A2, c2, e, rdU_below h1 hb, rdU_below h2 hb, h3, h4⟩
theorem OwnR.below {w w' : World} {B n : Nat} {v : Value} {f : Nat → Rat} {cs : List Value} (h : OwnR w B v n f cs) (hb : Below w.heap.size w w') : OwnR w' B v n f cs :=
  ⟨ownsRow_below h.row hb, fun i hi => (h.els i hi).below hb⟩
theorem OwnR.form {w : World} {B n : Nat} {v : Value} {f : Nat → Rat} {cs : List Value} (h : OwnR w B v n f cs) : ∃ A c, v = .slice A n c ∧ (0 < n → ∃ g, A = some ⟨g, 0, none⟩ ∧ B ≤ g ∧ g < w.heap.size) := ownsRow_form h.row
theorem OwnR.base {w : World} {B B' n : Nat} {v : Value} {f : Nat → Rat} {cs : List Value} (h : OwnR w B v n f cs) (hB : B' ≤ B) : OwnR w B' v n f cs := ⟨ownsRow_base h.row hB, h.els⟩
theorem OwnR.congr {w : World} {B n : Nat} {v : Value} {f f' : Nat → Rat} {cs : List Value} (h : OwnR w B v n f cs) (hf : ∀ i, i < n → f i = f' i) : OwnR w B v n f' cs :=
  ⟨h.row, fun i hi => by rw [← hf i hi]; exact h.els i hi⟩
/-- an element is read -/
theorem OwnR.at {w : World} {B n c : Nat} {A : Option Addr} {f : Nat → Rat} {cs : List Value} (h : OwnR w B (.slice A n c) n f cs) {i : Nat} (hi : i < n) :
    ∃ g s A1 k1 c1 A2 k2 c2, A = some ⟨g, 0, none⟩ ∧ g < w.heap.size ∧ w.cell? ⟨g, i * 3, none⟩ = some (.bool s) ∧ w.cell? ⟨g, i * 3 + 1, none⟩ = some (.slice A1 k1 c1) ∧ w.cell? ⟨g, i * 3 + 2, none⟩ = some (.slice A2 k2 c2) ∧
      IsRt w (f i) (.agg #[.bool s, .slice A1 k1 c1, .slice A2 k2 c2]) := by
  obtain ⟨A', c', e, hf⟩ := h.form
  injection e with e1 e2 e3
  subst e1 e3
  obtain ⟨g, rfl, _, hlt⟩ := hf (by omega)
  obtain ⟨A1, c1, A2, c2, e, h1, h2, _⟩ := h.els i hi
  have key : ∀ k, k < 3 → w.cell? ⟨g, i * 3 + k, none⟩ = (rt3 (f i) A1 A2 c1 c2)[k]? := fun k hk => by
    rw [World.ownsRow.cellAt h.row (i * 3 + k) (by omega), ← e, List.getElem?_take, if_pos hk, List.getElem?_drop]
  exact ⟨g, _, A1, _, c1, A2, _, c2, rfl, hlt, key 0 (by decide), key 1 (by decide), key 2 (by decide), A1, c1, A2, c2, rfl, h1, h2⟩
theorem infoR : (Tryz.prog.info? 87).map (fun i => (i.zero, i.size, i.bytes)) = some (some (.agg #[.bool false, .slice none 0 0, .slice none 0 0]), 3, 56) := by kernel_rfl
theorem ones_three {s : Bool} {A1 A2 : Option Addr} {k1 c1 k2 c2 : Nat} : ∀ u ∈ [Value.bool s, .slice A1 k1 c1, .slice A2 k2 c2], u.oneCell' = true := by
  intro u hu
  simp only [List.mem_cons, List.not_mem_nil, or_false] at hu
  rcases hu with rfl | rfl | rfl <;> rfl
theorem news_three (w : World) (t : TypeId) {u0 u1 u2 : Value} {g : Nat} (hg : g = w.heap.size) : ∀ (j : Nat) (x : Value), [u0, u1, u2][j]? = some x → (w.alloc (.cells #[u0, u1, u2] t)).cell? ((⟨g, 0, none⟩ : Addr).add j) = some x := by
  subst hg
  intro j x hx
  have e : (#[u0, u1, u2] : Array Value)[j]? = some x := by rw [← Array.getElem?_toList]; exact hx
  rw [Addr.add_lit]
  exact (World.cell?_alloc_new w #[u0, u1, u2] t (0 + j)).trans (by rw [Nat.zero_add]; exact e)
theorem ElR.kept {w w' : World} {own own' : Option Nat} {cs : List Value} {i : Nat} {q : Rat} (h : ElR w own cs i q) (hg : w.grownBy w' own) (he : own' = own ∨ own' = some w.heap.size) : ElR w' own' cs i q := by
  obtain ⟨A1, c1, A2, c2, e, h1, h2, h3, h4⟩ := h
  have key : ∀ {A : Option Addr} {xs : List Nat}, RdU w w.heap.size A xs → (0 < xs.length → Apart own A) → RdU w' w'.heap.size A xs ∧ (0 < xs.length → Apart own' A) := fun {A xs} k1 k2 => by
    refine ⟨fun h0 => rdU_kept k1 hg (k2 h0) h0, fun h0 => ?_⟩
    rcases he with rfl | rfl
    · exact k2 h0
    · obtain ⟨b, off, rfl, hlt, _⟩ := k1 h0
      intro a ha hb
      injection ha with ha
      subst ha
      injection hb with hb
      have : w.heap.size = b := hb
      omega
  obtain ⟨k1, k2⟩ := key h1 h3
  obtain ⟨k3, k4⟩ := key h2 h4
  exact ⟨A1, c1, A2, c2, e, k1, k3, k2, k4⟩
/-- an element is pushed -/
theorem OwnR.push {wr w1 w2 : World} {B n : Nat} {v v' : Value} {f : Nat → Rat} {cs : List Value} {A1 A2 : Option Addr} {c1 c2 : Nat} {ca : Array Value} {t : TypeId} (h : OwnR wr B v n f cs) (h1 : Below wr.heap.size wr w1)
    (d1 : RdU w1 w1.heap.size A1 (natL (f n).num.natAbs)) (d2 : RdU w1 w1.heap.size A2 (natL (f n).den)) (a1 : 0 < (natL (f n).num.natAbs).length → Apart v.ownBlock A1) (a2 : 0 < (natL (f n).den).length → Apart v.ownBlock A2)
    (hown : w2.ownsRow B 87 3 v' (n + 1) (cs ++ rt3 (f n) A1 A2 c1 c2)) (hg : (w1.alloc (.cells ca t)).grownBy w2 v.ownBlock) (he : v'.ownBlock = v.ownBlock ∨ v'.ownBlock = some (w1.alloc (.cells ca t)).heap.size) :
    OwnR w2 B v' (n + 1) f (cs ++ rt3 (f n) A1 A2 c1 c2) := by
  have hb2 : Below w1.heap.size w1 (w1.alloc (.cells ca t)) := (Below.refl _ _).alloc (Nat.le_refl _) _
  have hA := (h.below h1).below hb2
  have hlen : cs.length = n * 3 := h.row.1
  refine ⟨hown, fun i hi => ?_⟩
  rcases Nat.lt_or_ge i n with hlt | hge
  · obtain ⟨B1, j1, B2, j2, e, p1, p2, p3, p4⟩ := hA.els i hlt
    have e2 : ((cs ++ rt3 (f n) A1 A2 c1 c2).drop (i * 3)).take 3 = (cs.drop (i * 3)).take 3 := by
      rw [List.drop_append_of_le_length (by omega), List.take_append_of_le_length (by rw [List.length_drop]; omega)]
    exact ElR.kept ⟨B1, j1, B2, j2, e2.trans e, p1, p2, p3, p4⟩ hg he
  · obtain rfl : i = n := by omega
    refine ElR.kept (own := v.ownBlock) ⟨A1, c1, A2, c2, ?_, rdU_below d1 hb2, rdU_below d2 hb2, a1, a2⟩ hg he
    rw [List.drop_append, List.drop_of_length_le (by omega), hlen, Nat.sub_self]
    rfl
theorem OwnR.nil (w : World) (B : Nat) (f : Nat → Rat) : OwnR w B (.slice none 0 0) 0 f [] := ⟨World.ownsRow_nil w B _ 3, fun i hi => absurd hi (Nat.not_lt_zero i)⟩
theorem OwnR.lit0 (w : World) (f : Nat → Rat) : OwnR (w.alloc (.cells #[] 87)) w.heap.size (.slice (some ⟨w.heap.size, 0, none⟩) 0 0) 0 f [] :=
  ⟨World.ownsRow_made w #[] 0 (Nat.le_refl _) (Nat.zero_le _) (by simp), fun i hi => absurd hi (Nat.not_lt_zero i)⟩
theorem RdV.apart {w0 w : World} {A : Option Addr} {xs : List Nat} {B size n : Nat} {t : TypeId} {v : Value} {cs : List Value} (h : RdV w0 w A xs) (hr : w0.ownsRow B t size v n cs) : Apart v.ownBlock A := fun a ha hb => by
  obtain ⟨_, _, _, hlt⟩ := ownsRow_block hr hb
  have := h.2 a ha
  omega
/-- a list of ratios that is read -/
def RdR (w : World) (A : Option Addr) (n : Nat) (f : Nat → Rat) : Prop :=
  0 < n → ∃ g, A = some ⟨g, 0, none⟩ ∧ g < w.heap.size ∧ ∀ i, i < n → ∃ s A1 k1 c1 A2 k2 c2, w.cell? ⟨g, i * 3, none⟩ = some (.bool s) ∧ w.cell? ⟨g, i * 3 + 1, none⟩ = some (.slice A1 k1 c1) ∧ w.cell? ⟨g, i * 3 + 2, none⟩ = some (.slice A2 k2 c2) ∧ IsRt w (f i) (.agg #[.bool s, .slice A1 k1 c1, .slice A2 k2 c2])
theorem OwnR.rd {w : World} {B n c : Nat} {A : Option Addr} {f : Nat → Rat} {cs : List Value} (h : OwnR w B (.slice A n c) n f cs) : RdR w A n f := fun h0 => by
  obtain ⟨g, s, A1, k1, c1, A2, k2, c2, rfl, hlt, _⟩ := h.at h0
  refine ⟨g, rfl, hlt, fun i hi => ?_⟩
  obtain ⟨g', s, A1, k1, c1, A2, k2, c2, e, _, x0, x1, x2, hr⟩ := h.at hi
  injection e with e
  injection e with e _ _
  subst e
  exact ⟨s, A1, k1, c1, A2, k2, c2, x0, x1, x2, hr⟩
theorem RdR.below {w w' : World} {A : Option Addr} {n : Nat} {f : Nat → Rat} (h : RdR w A n f) (hb : Below w.heap.size w w') : RdR w' A n f := fun h0 => by
  obtain ⟨g, e, hlt, hc⟩ := h h0
  refine ⟨g, e, Nat.lt_of_lt_of_le hlt hb.size, fun i hi => ?_⟩
  obtain ⟨s, A1, k1, c1, A2, k2, c2, x0, x1, x2, hr⟩ := hc i hi
  exact ⟨s, A1, k1, c1, A2, k2, c2, (hb.cell (p := ⟨g, i * 3, none⟩) hlt).trans x0, (hb.cell (p := ⟨g, i * 3 + 1, none⟩) hlt).trans x1, (hb.cell (p := ⟨g, i * 3 + 2, none⟩) hlt).trans x2, hr.below hb⟩
theorem RdR.at {w : World} {A : Option Addr} {n : Nat} {f : Nat → Rat} (h : RdR w A n f) {i : Nat} (hi : i < n) :
    ∃ g s A1 k1 c1 A2 k2 c2, A = some ⟨g, 0, none⟩ ∧ g < w.heap.size ∧ w.cell? ⟨g, i * 3, none⟩ = some (.bool s) ∧ w.cell? ⟨g, i * 3 + 1, none⟩ = some (.slice A1 k1 c1) ∧ w.cell? ⟨g, i * 3 + 2, none⟩ = some (.slice A2 k2 c2) ∧
      IsRt w (f i) (.agg #[.bool s, .slice A1 k1 c1, .slice A2 k2 c2]) := by
  obtain ⟨g, e, hlt, hc⟩ := h (by omega)
  obtain ⟨s, A1, k1, c1, A2, k2, c2, x0, x1, x2, hr⟩ := hc i hi
  exact ⟨g, s, A1, k1, c1, A2, k2, c2, e, hlt, x0, x1, x2, hr⟩
theorem RdR.congr {w : World} {A : Option Addr} {n : Nat} {f f' : Nat → Rat} (h : RdR w A n f) (hf : ∀ i, i < n → f i = f' i) : RdR w A n f' := fun h0 => by
  obtain ⟨g, e, hlt, hc⟩ := h h0
  exact ⟨g, e, hlt, fun i hi => by rw [← hf i hi]; exact hc i hi⟩
end Go.Proofs.YtionognmgcabbaaGreat.Ratio
/- A number that is too large for an int64. -/
namespace Go.Proofs.YtionognmgcabbaaGreat.Nat32
open Go.RowKit Go.Proofs.YtionognmgcabbaaGreat Go.Proofs.YtionognmgcabbaaGreat.Base Go.Proofs.YtionognmgcabbaaGreat.Mem Go.Proofs.YtionognmgcabbaaGreat.NatM
set_option linter.unusedVariables false
set_option maxHeartbeats 1000000 in
/-- a number of more than MaxPart -/
theorem small_no (x : Nat) (A : Option Addr) (c B : Nat) (w : World) (hx : RdU w B A (natL x)) (h : 1000000000000000000 < x) :
    Calls Tryz.prog 130 #[.slice A (natL x).length c] w fun e w' => ∃ i : Int, e = .returned (.tuple #[.int .i64 i, .bool false]) ∧ w = w' := by
  by_cases hlen : (natL x).length ≤ 2
  case neg =>
    generalize (natL x).length = k at *
    have hd : decide ((2 : Int) < (k : Int)) = true := decide_eq_true (by omega)
    clear hx
    go_enter Tryz.func130, Tryz.ntmps130
    go_wp2
    go_ret2
    exact ⟨0, rfl, rfl⟩
  have ok := natL_ok x
  have hv := natL_val x
  have HX := Lib.hid hx
  generalize hxs : natL x = xs at *
  have HV := Lib.hid hv
  have HO := Lib.hid ok
  clear hx hv ok hxs
  go_enter Tryz.func130, Tryz.ntmps130
  go_wp2
  go_loop [12, 4] (fun iv nv => ∃ k : Nat, k ≤ xs.length ∧ iv = .int .i64 (k : Int) ∧ nv = .int .u64 ((val (xs.take k) : Nat) : Int)) (fun iv _ => xs.length - (intOf iv).toNat)
  case atStart => exact ⟨0, Nat.zero_le _, rfl, rfl⟩
  case round =>
    obtain ⟨k, hk, rfl, rfl⟩ := hrel
    by_cases hlt : k < xs.length
    · have hx1 : xs.getD k 0 < B32 := HO.out _ (by simp [List.getD, hlt])
      obtain ⟨b, off, rfl, _, hc⟩ := HX.out (by omega)
      have g := hc k hlt
      clear hc
      have HS := Lib.hid (val_take_succ xs k hlt)
      have hk2 : k = 0 ∨ k = 1 := by omega
      rcases hk2 with rfl | rfl
      · rw [List.take_zero, show val ([] : List Nat) = 0 from rfl] at HS ⊢
        rw [Nat.add_zero] at g
        unfold B32 at hx1
        generalize xs.getD 0 0 = y at *
        have HO2 := Lib.hid (or_digit 0 y (by decide) hx1)
        have HO1 := Lib.hid (u64_or 0 y (by decide) (by omega))
        go_wp2
        go_round
        case rel => exact ⟨1, by omega, rfl, by rw [HS.out]; have := HO1.out; rw [Nat.zero_or] at this; rw [show ((0 : Nat) : Int) = 0 from rfl] at this; rw [this]; simp⟩
        case measure => simp [intOf]; omega
      · unfold B32 at hx1
        have hz1 : val (xs.take 1) < B32 := by
          have := val_lt _ (okN_take HO.out 1)
          rw [List.length_take, Nat.min_eq_left (by omega)] at this
          simpa using this
        unfold B32 at hz1
        generalize xs.getD 1 0 = y at *
        generalize val (xs.take 1) = z at *
        have HO2 := Lib.hid (or_digit z y hz1 hx1)
        go_wp2
        go_round
        case rel => exact ⟨2, by omega, rfl, by rw [HS.out, HO2.out]; rfl⟩
        case measure => simp [intOf]; omega
    · obtain rfl : k = xs.length := by omega
      have hvx : val (xs.take xs.length) = x := by rw [List.take_of_length_le (Nat.le_refl _)]; exact HV.out
      rw [hvx]
      have hlt2 : x < 18446744073709551616 := by
        have := val_lt xs HO.out
        have e : B32 ^ xs.length ≤ B32 ^ 2 := Nat.pow_le_pow_right (by decide) hlen
        rw [HV.out] at this
        exact Nat.lt_of_lt_of_le this (Nat.le_trans e (by decide))
      have hle : decide ((x : Int) ≤ 1000000000000000000) = false := decide_eq_false (by omega)
      clear hvx
      go_wp2
      go_ret2
      exact ⟨⟨wrap64 (bits BinOp.and IntKind.u64 (x : Int) 9223372036854775807), rfl⟩, rfl⟩
end Go.Proofs.YtionognmgcabbaaGreat.Nat32
/- Plain mathematics: sums and products of fractions in lowest terms, by greatest common divisors taken ahead. No program in sight. -/
set_option linter.unusedVariables false
namespace Go.Proofs.YtionognmgcabbaaGreat.RatM
theorem cop_mul {a b c : Nat} (h1 : Nat.gcd a c = 1) (h2 : Nat.gcd b c = 1) : Nat.gcd (a * b) c = 1 :=
  Nat.Coprime.mul_left (k := c) h1 h2
theorem cop_mul_r {a b c : Nat} (h1 : Nat.gcd a b = 1) (h2 : Nat.gcd a c = 1) : Nat.gcd a (b * c) = 1 := by
  rw [Nat.gcd_comm]; exact cop_mul (by rw [Nat.gcd_comm]; exact h1) (by rw [Nat.gcd_comm]; exact h2)
theorem cop_dvd {a b c : Nat} (h : Nat.gcd a b = 1) (hc : c ∣ b) : Nat.gcd a c = 1 :=
  Nat.Coprime.coprime_dvd_right hc h
theorem cop_dvd_l {a b c : Nat} (h : Nat.gcd a b = 1) (hc : c ∣ a) : Nat.gcd c b = 1 :=
  Nat.Coprime.coprime_dvd_left hc h
theorem qv_scale (s : Bool) {n d k : Nat} (hd : d ≠ 0) (hk : k ≠ 0) : qv s (n * k) (d * k) = qv s n d := by
  have g := natCast_ne hd
  have g' := natCast_ne hk
  unfold qv
  simp only [Rat.natCast_mul]
  cases s <;> simp only [Bool.false_eq_true, if_false, if_true] <;> grind
/-- numbers whose sum or difference is looked at: t is prime to b and to c -/
theorem cop_of_sum {t u v b : Nat} (h : t = u + v ∨ t + v = u ∨ t + u = v) (hv : b ∣ v) (hu : Nat.gcd u b = 1) : Nat.gcd t b = 1 := by
  obtain ⟨k, rfl⟩ := hv
  have key : Nat.gcd t b ∣ u := by
    have h1 := Nat.gcd_dvd_left t b
    have h2 : Nat.gcd t b ∣ b * k := Nat.dvd_trans (Nat.gcd_dvd_right t b) (Nat.dvd_mul_right b k)
    rcases h with h | h | h
    · rw [h] at h1
      rw [h]
      exact (Nat.dvd_add_left (by rw [h] at h2; exact h2)).1 h1
    · rw [← h]; exact Nat.dvd_add h1 h2
    · rw [← h] at h2
      exact (Nat.dvd_add_right h1).1 h2
  have h3 := Nat.dvd_gcd key (Nat.gcd_dvd_right t b)
  rw [hu] at h3
  exact Nat.dvd_one.1 h3
/-- the sum of two fractions in lowest terms: what is left to be taken out -/
theorem sum_cop {n1 d1 n2 d2 D t : Nat} (hd1 : 0 < d1) (hd2 : 0 < d2) (h1 : Nat.gcd n1 d1 = 1) (h2 : Nat.gcd n2 d2 = 1) (hD : D = Nat.gcd d1 d2)
    (ht : t = n1 * (d2 / D) + n2 * (d1 / D) ∨ t + n2 * (d1 / D) = n1 * (d2 / D) ∨ t + n1 * (d2 / D) = n2 * (d1 / D)) :
    Nat.gcd (t / Nat.gcd D (t % D)) ((d1 / D) * (d2 / Nat.gcd D (t % D))) = 1 := by
  have hD0 : 0 < D := by rw [hD]; exact Nat.gcd_pos_of_pos_left _ hd1
  have e1 : D ∣ d1 := by rw [hD]; exact Nat.gcd_dvd_left _ _
  have e2 : D ∣ d2 := by rw [hD]; exact Nat.gcd_dvd_right _ _
  have hcop : Nat.gcd (d1 / D) (d2 / D) = 1 := by rw [hD]; exact Nat.coprime_div_gcd_div_gcd (Nat.gcd_pos_of_pos_left _ hd1)
  have eg : Nat.gcd D (t % D) = Nat.gcd D t := by rw [Nat.gcd_comm D (t % D), ← Nat.gcd_rec]
  rw [eg]
  have hG0 : 0 < Nat.gcd D t := Nat.gcd_pos_of_pos_left _ hD0
  obtain ⟨b, rfl⟩ := e1
  obtain ⟨c, rfl⟩ := e2
  rw [Nat.mul_div_cancel_left _ hD0] at *
  rw [Nat.mul_div_cancel_left _ hD0] at *
  have hb : Nat.gcd t b = 1 := by
    refine cop_of_sum (u := n1 * c) (v := n2 * b) (by omega) (Nat.dvd_mul_left b n2) ?_
    exact cop_mul (cop_dvd h1 (Nat.dvd_mul_left b D)) (by rw [Nat.gcd_comm]; exact hcop)
  have hc : Nat.gcd t c = 1 := by
    refine cop_of_sum (u := n2 * b) (v := n1 * c) (by omega) (Nat.dvd_mul_left c n1) ?_
    exact cop_mul (cop_dvd h2 (Nat.dvd_mul_left c D)) hcop
  have hGD := Nat.gcd_dvd_left D t
  have hGt := Nat.gcd_dvd_right D t
  have hq : Nat.gcd (t / Nat.gcd D t) (D / Nat.gcd D t) = 1 := by
    rw [Nat.gcd_comm]; exact Nat.coprime_div_gcd_div_gcd hG0
  have hl : t / Nat.gcd D t ∣ t := Nat.div_dvd_of_dvd hGt
  have e3 : D * c / Nat.gcd D t = c * (D / Nat.gcd D t) := by
    rw [Nat.mul_comm D c, Nat.mul_div_assoc c hGD]
  rw [e3]
  exact cop_mul_r (cop_dvd_l hb hl) (cop_mul_r (cop_dvd_l hc hl) hq)
theorem sum_val (s : Bool) {d1 d2 D t : Nat} (hd1 : 0 < d1) (hd2 : 0 < d2) (hD : D = Nat.gcd d1 d2) :
    qv s (t / Nat.gcd D (t % D)) ((d1 / D) * (d2 / Nat.gcd D (t % D))) = qv s (t * D) (d1 * d2) := by
  have hD0 : 0 < D := by rw [hD]; exact Nat.gcd_pos_of_pos_left _ hd1
  have e1 : D ∣ d1 := by rw [hD]; exact Nat.gcd_dvd_left _ _
  have e2 : D ∣ d2 := by rw [hD]; exact Nat.gcd_dvd_right _ _
  have eg : Nat.gcd D (t % D) = Nat.gcd D t := by rw [Nat.gcd_comm D (t % D), ← Nat.gcd_rec]
  rw [eg]
  have hG0 : 0 < Nat.gcd D t := Nat.gcd_pos_of_pos_left _ hD0
  have hGD := Nat.gcd_dvd_left D t
  have hGt := Nat.gcd_dvd_right D t
  have hG2 := Nat.dvd_trans hGD e2
  generalize Nat.gcd D t = G at *
  obtain ⟨b, rfl⟩ := e1
  obtain ⟨c, rfl⟩ := hG2
  obtain ⟨k, rfl⟩ := hGt
  rw [Nat.mul_div_cancel_left _ hD0, Nat.mul_div_cancel_left _ hG0, Nat.mul_div_cancel_left _ hG0]
  have h1 : b ≠ 0 := by rintro rfl; simp at hd1
  have h2 : c ≠ 0 := by rintro rfl; simp at hd2
  have := qv_scale s (n := k) (d := b * c) (k := G * D) (Nat.mul_ne_zero h1 h2) (Nat.mul_ne_zero (by omega) (by omega))
  rw [← this]
  congr 1
  · simp only [Nat.mul_left_comm, Nat.mul_comm]
  · simp only [Nat.mul_left_comm, Nat.mul_comm]
/-- the numbers over the common denominator -/
theorem sum_t {n1 d1 n2 d2 D : Nat} (hd1 : 0 < d1) (hD : D = Nat.gcd d1 d2) : (n1 * (d2 / D)) * D = n1 * d2 ∧ (n2 * (d1 / D)) * D = n2 * d1 := by
  have e1 : D ∣ d1 := by rw [hD]; exact Nat.gcd_dvd_left _ _
  have e2 : D ∣ d2 := by rw [hD]; exact Nat.gcd_dvd_right _ _
  rw [Nat.mul_assoc, Nat.mul_assoc, Nat.div_mul_cancel e1, Nat.div_mul_cancel e2]
  exact ⟨rfl, rfl⟩
/-- a product of two fractions in lowest terms -/
theorem prod_cop {n1 d1 n2 d2 : Nat} (hd1 : 0 < d1) (hd2 : 0 < d2) (h1 : Nat.gcd n1 d1 = 1) (h2 : Nat.gcd n2 d2 = 1) :
    Nat.gcd ((n1 / Nat.gcd n1 d2) * (n2 / Nat.gcd n2 d1)) ((d2 / Nat.gcd n1 d2) * (d1 / Nat.gcd n2 d1)) = 1 := by
  have a1 : Nat.gcd (n1 / Nat.gcd n1 d2) (d2 / Nat.gcd n1 d2) = 1 := Nat.coprime_div_gcd_div_gcd (Nat.gcd_pos_of_pos_right _ hd2)
  have a2 : Nat.gcd (n2 / Nat.gcd n2 d1) (d1 / Nat.gcd n2 d1) = 1 := Nat.coprime_div_gcd_div_gcd (Nat.gcd_pos_of_pos_right _ hd1)
  have l1 : n1 / Nat.gcd n1 d2 ∣ n1 := Nat.div_dvd_of_dvd (Nat.gcd_dvd_left _ _)
  have l2 : n2 / Nat.gcd n2 d1 ∣ n2 := Nat.div_dvd_of_dvd (Nat.gcd_dvd_left _ _)
  have r1 : d2 / Nat.gcd n1 d2 ∣ d2 := Nat.div_dvd_of_dvd (Nat.gcd_dvd_right _ _)
  have r2 : d1 / Nat.gcd n2 d1 ∣ d1 := Nat.div_dvd_of_dvd (Nat.gcd_dvd_right _ _)
  refine cop_mul (cop_mul_r a1 ?_) (cop_mul_r ?_ a2)
  · exact cop_dvd (cop_dvd_l h1 l1) r2
  · exact cop_dvd (cop_dvd_l h2 l2) r1
theorem prod_val (s : Bool) {n1 d1 n2 d2 : Nat} (hd1 : 0 < d1) (hd2 : 0 < d2) :
    qv s ((n1 / Nat.gcd n1 d2) * (n2 / Nat.gcd n2 d1)) ((d2 / Nat.gcd n1 d2) * (d1 / Nat.gcd n2 d1)) = qv s (n1 * n2) (d1 * d2) := by
  have p1 : 0 < Nat.gcd n1 d2 := Nat.gcd_pos_of_pos_right _ hd2
  have p2 : 0 < Nat.gcd n2 d1 := Nat.gcd_pos_of_pos_right _ hd1
  have l1 := Nat.gcd_dvd_left n1 d2
  have l2 := Nat.gcd_dvd_left n2 d1
  have r1 := Nat.gcd_dvd_right n1 d2
  have r2 := Nat.gcd_dvd_right n2 d1
  generalize Nat.gcd n1 d2 = G at *
  generalize Nat.gcd n2 d1 = H at *
  obtain ⟨a, rfl⟩ := l1
  obtain ⟨b, rfl⟩ := l2
  obtain ⟨c, rfl⟩ := r1
  obtain ⟨d, rfl⟩ := r2
  rw [Nat.mul_div_cancel_left _ p1, Nat.mul_div_cancel_left _ p2, Nat.mul_div_cancel_left _ p1, Nat.mul_div_cancel_left _ p2]
  have h1 : c ≠ 0 := by rintro rfl; simp at hd2
  have h2 : d ≠ 0 := by rintro rfl; simp at hd1
  have := qv_scale s (n := a * b) (d := c * d) (k := G * H) (Nat.mul_ne_zero h1 h2) (Nat.mul_ne_zero (by omega) (by omega))
  rw [← this]
  congr 1
  · simp only [Nat.mul_left_comm, Nat.mul_comm]
  · simp only [Nat.mul_left_comm, Nat.mul_comm]
/-- a fraction in lowest terms is the numerator and the denominator of its rational -/
theorem low_of {s : Bool} {n d : Nat} (hd : d ≠ 0) (hg : Nat.gcd n d = 1) : (qv s n d).num = (if s then -(n : Int) else (n : Int)) ∧ (qv s n d).den = d := by
  obtain ⟨h1, h2⟩ := own_num (s := s) hd hg
  refine ⟨?_, h2⟩
  by_cases hn : n = 0
  · subst hn
    rw [qv_zero]
    cases s <;> rfl
  · have h3 := qv_neg (s := s) hn hd
    have h4 := neg_iff (qv s n d)
    cases s
    · have : ¬ (qv false n d).num < 0 := fun h => by
        have := h4.2 h
        simp [this] at h3
      simp only [Bool.false_eq_true, if_false]; omega
    · have : (qv true n d).num < 0 := h4.1 (of_decide_eq_true h3)
      simp only [if_true]; omega
/-- signs -/
theorem qv_add {s s' : Bool} {n d n' d' : Nat} (h : d ≠ 0) (h' : d' ≠ 0) :
    qv s n d + qv s' n' d' = if s = s' then qv s (n * d' + n' * d) (d * d') else if n * d' < n' * d then qv s' (n' * d - n * d') (d * d') else qv s (n * d' - n' * d) (d * d') := by
  split
  · rename_i e
    subst e
    exact (qv_add_same s h h').symm
  · rename_i e
    split
    · rename_i hlt
      have := qv_add_diff s' (n := n') (d := d') (n' := n) (d' := d) h' h (by omega)
      rw [Nat.mul_comm d d', this, show (!s') = s by cases s <;> cases s' <;> simp_all, Rat.add_comm]
    · rename_i hlt
      have := qv_add_diff s (n := n) (d := d) (n' := n') (d' := d') h h' (by omega)
      rw [this, show (!s) = s' by cases s <;> cases s' <;> simp_all]
/-- numerator and denominator are small -/
def smallQ (q : Rat) : Bool := decide (q.num.natAbs ≤ 1000000000000000000) && decide (q.den ≤ 1000000000000000000)
/-- the fraction that a small rational is -/
def numQ (q : Rat) : Int := if smallQ q then q.num else 0
def denQ (q : Rat) : Int := if smallQ q then (q.den : Int) else 0
theorem small_yes {q : Rat} (h1 : q.num.natAbs ≤ 1000000000000000000) (h2 : q.den ≤ 1000000000000000000) : smallQ q = true ∧ numQ q = q.num ∧ denQ q = (q.den : Int) := by
  have hs : smallQ q = true := by unfold smallQ; rw [decide_eq_true h1, decide_eq_true h2]; rfl
  exact ⟨hs, by unfold numQ; rw [hs]; rfl, by unfold denQ; rw [hs]; rfl⟩
theorem small_no {q : Rat} (h : ¬ q.num.natAbs ≤ 1000000000000000000 ∨ ¬ q.den ≤ 1000000000000000000) : smallQ q = false ∧ numQ q = 0 ∧ denQ q = 0 := by
  have hs : smallQ q = false := by
    unfold smallQ
    rcases h with h | h
    · rw [decide_eq_false h]; rfl
    · rw [decide_eq_false h, Bool.and_false]
  exact ⟨hs, by unfold numQ; rw [hs]; rfl, by unfold denQ; rw [hs]; rfl⟩
theorem small_true {q : Rat} (h : smallQ q = true) : q.num.natAbs ≤ 1000000000000000000 ∧ q.den ≤ 1000000000000000000 := by
  unfold smallQ at h
  rw [Bool.and_eq_true, decide_eq_true_eq, decide_eq_true_eq] at h
  exact h
/-- a fraction in lowest terms that is valid -/
def VF (n d : Int) : Prop := 1 ≤ d ∧ d ≤ 1000000000000000000 ∧ -1000000000000000000 ≤ n ∧ n ≤ 1000000000000000000 ∧ Nat.gcd n.natAbs d.toNat = 1
theorem VF.num {n d : Int} (h : VF n d) : (qf n d).num = n ∧ ((qf n d).den : Int) = d ∧ (decide (qf n d < 0) = decide (n < 0)) := qf_num (by have := h.1; omega) h.2.2.2.2
theorem VF.of (q : Rat) (h : smallQ q = true) : VF q.num (q.den : Int) := by
  obtain ⟨h1, h2⟩ := small_true h
  have := q.den_pos
  exact ⟨by omega, by omega, by omega, by omega, by rw [Int.toNat_natCast]; exact q.reduced⟩
theorem qf_self (q : Rat) : qf q.num (q.den : Int) = q := by
  have h := qv_self q
  unfold qf
  rw [Int.toNat_natCast]
  have e : decide (q.num < 0) = decide (q < 0) := by rw [Bool.eq_iff_iff, decide_eq_true_eq, decide_eq_true_eq]; exact (neg_iff q).symm
  rw [e]; exact h
theorem VF.small {n d : Int} (h : VF n d) : smallQ (qf n d) = true := by
  obtain ⟨h1, h2, _⟩ := h.num
  refine (small_yes ?_ ?_).1
  · rw [h1]; have := h.2.2.1; have := h.2.2.2.1; omega
  · have := h.2.1; omega
end Go.Proofs.YtionognmgcabbaaGreat.RatM
/- The fraction of a ratio: what int64 holds. -/
namespace Go.Proofs.YtionognmgcabbaaGreat.Ratio
open Go.RowKit Go.Proofs.YtionognmgcabbaaGreat Go.Proofs.YtionognmgcabbaaGreat.Base Go.Proofs.YtionognmgcabbaaGreat.Mem Go.Proofs.YtionognmgcabbaaGreat.NatM Go.Proofs.YtionognmgcabbaaGreat.Nat32 Go.Proofs.YtionognmgcabbaaGreat.RatM
open Go.Proofs.YtionognmgcabbaaGreat.Inv (natOf natOf_eq len_pos Rat3 not_slice not_bool frz)
set_option linter.unusedVariables false
theorem smallAny (x : Nat) (A : Option Addr) (c B : Nat) (w : World) (hx : RdU w B A (natL x)) :
    Calls Tryz.prog 130 #[.slice A (natL x).length c] w fun e w' => (∃ i : Int, e = .returned (.tuple #[.int .i64 i, .bool (decide (x ≤ 1000000000000000000))]) ∧ (x ≤ 1000000000000000000 → i = x)) ∧ w = w' := by
  rcases Nat.lt_or_ge 1000000000000000000 x with h | h
  · rw [decide_eq_false (by omega)]
    refine (small_no x A c B w hx h).mono ?_
    rintro e w' ⟨i, rfl, rfl⟩
    exact ⟨⟨i, rfl, fun h' => absurd h' (by omega)⟩, rfl⟩
  · rw [decide_eq_true (by omega)]
    refine (small_yes x A c B w hx h).mono ?_
    rintro e w' ⟨rfl, rfl⟩
    exact ⟨⟨x, rfl, fun _ => rfl⟩, rfl⟩
theorem ratFraction {q : Rat} {v : Value} (w : World) (hv : IsRt w q v) :
    Calls Tryz.prog 62 #[v] w fun e w' => e = .returned (.tuple #[.agg #[.int .i64 (numQ q), .int .i64 (denQ q)], .bool (smallQ q)]) ∧ Below w.heap.size w w' := by
  obtain ⟨A, c, A', c', rfl, hx, hy⟩ := hv
  have HB : Hid (Below w.heap.size w ((w.alloc (.cells #[.bool (decide (q < 0)), .slice A (natL q.num.natAbs).length c, .slice A' (natL q.den).length c'] 87)).alloc (.cells #[.int .i64 0, .int .i64 0] 43))) := Lib.hid (((Below.refl _ _).alloc (Nat.le_refl _) _).alloc (by simp) _)
  have H1 := Lib.hid (fun W (h : Below w.heap.size w W) => smallAny q.num.natAbs A c w.heap.size W (hx.below h (Nat.le_refl _)))
  have H2 := Lib.hid (fun W (h : Below w.heap.size w W) => smallAny q.den A' c' w.heap.size W (hy.below h (Nat.le_refl _)))
  have HF : ∀ i j : Int, (q.num.natAbs ≤ 1000000000000000000 → i = q.num.natAbs) → (q.den ≤ 1000000000000000000 → j = q.den) → decide (q.num.natAbs ≤ 1000000000000000000) = true → decide (q.den ≤ 1000000000000000000) = true → smallQ q = true ∧ denQ q = j ∧ ((q.num.natAbs : Int) = i ∧ (q.den : Int) = j) ∧ (decide (q < 0) = true → numQ q = -i ∧ 0 ≤ i ∧ i ≤ 1000000000000000000) ∧ (decide (q < 0) = false → numQ q = i) := by
    intro i j hi hj h1 h2
    have hs : smallQ q = true := by unfold smallQ; rw [h1, h2]; rfl
    have hn := hi (of_decide_eq_true h1)
    have hle := of_decide_eq_true h1
    refine ⟨hs, by unfold denQ; rw [hs, hj (of_decide_eq_true h2)]; rfl, ⟨hn.symm, (hj (of_decide_eq_true h2)).symm⟩, fun hq => ?_, fun hq => ?_⟩
    · have : q.num < 0 := Int.not_le.1 fun h => Rat.not_le.2 (of_decide_eq_true hq) (Rat.num_nonneg.1 h)
      exact ⟨by unfold numQ; rw [hs]; simp; omega, by omega, by omega⟩
    · have : 0 ≤ q.num := Rat.num_nonneg.2 (Rat.not_lt.1 (of_decide_eq_false hq))
      unfold numQ; rw [hs]; simp; omega
  have HG : (decide (q.num.natAbs ≤ 1000000000000000000) = false ∨ decide (q.den ≤ 1000000000000000000) = false) → smallQ q = false ∧ numQ q = 0 ∧ denQ q = 0 := by
    intro h
    have hs : smallQ q = false := by unfold smallQ; rcases h with h | h <;> rw [h] <;> simp
    exact ⟨hs, by unfold numQ; rw [hs]; rfl, by unfold denQ; rw [hs]; rfl⟩
  have HF := Lib.hid HF
  have HG := Lib.hid HG
  clear hx hy
  generalize decide (q < 0) = s at *
  generalize (natL q.num.natAbs).length = n at *
  generalize (natL q.den).length = n' at *
  generalize hb1 : decide (q.num.natAbs ≤ 1000000000000000000) = b1 at *
  generalize hb2 : decide (q.den ≤ 1000000000000000000) = b2 at *
  clear hb1 hb2
  generalize numQ q = vn at *
  generalize denQ q = vd at *
  generalize smallQ q = sm at *
  go_enter Tryz.func62, Tryz.ntmps62
  go_wp2_with fail
  refine (H1.out _ HB.out).mono ?_
  rintro e w1 ⟨⟨i, rfl, hi⟩, rfl⟩
  have HI := Lib.hid hi
  clear hi
  go_wp2_with fail
  refine (H2.out _ HB.out).mono ?_
  rintro e w1 ⟨⟨j, rfl, hj⟩, rfl⟩
  have HF2 := Lib.hid (HF.out i j HI.out hj)
  clear hj
  clear HF
  cases b1 with
  | false =>
    obtain ⟨rfl, rfl, rfl⟩ := HG.out (Or.inl rfl)
    cases b2 <;>
    · go_wp2
      refine bodyPost_ret (v := .tuple #[.agg #[.int .i64 0, .int .i64 0], .bool false]) (by simp [results, Tryz.results62, go_sem]) rfl ⟨rfl, ?_⟩
      exact ((Below.refl _ _).alloc (Nat.le_refl _) _).alloc (by simp) _
  | true =>
    cases b2 with
    | false =>
      obtain ⟨rfl, rfl, rfl⟩ := HG.out (Or.inr rfl)
      go_wp2
      refine bodyPost_ret (v := .tuple #[.agg #[.int .i64 0, .int .i64 0], .bool false]) (by simp [results, Tryz.results62, go_sem]) rfl ⟨rfl, ?_⟩
      exact ((Below.refl _ _).alloc (Nat.le_refl _) _).alloc (by simp) _
    | true =>
      obtain ⟨rfl, rfl, ⟨e1, e2⟩, hn, hp⟩ := HF2.out rfl rfl
      have E1 := Lib.hid e1
      have E2 := Lib.hid e2
      clear e1 e2
      cases s with
      | true =>
        obtain ⟨rfl, h0, hle⟩ := hn rfl
        clear hn hp
        have hw : wrap64 (-i) = -i := by first | (unfold wrap64; omega) | (simp [wrap64]; omega)
        go_wp2
        refine bodyPost_ret (v := .tuple #[.agg #[.int .i64 (-i), .int .i64 vd], .bool true]) (by simp [results, Tryz.results62, go_sem]; first | done | (rw [E1.out, E2.out]; first | exact ⟨hw, rfl⟩ | exact ⟨rfl, rfl⟩)) rfl ⟨rfl, ?_⟩
        exact ((Below.refl _ _).alloc (Nat.le_refl _) _).alloc (by simp) _
      | false =>
        obtain rfl := hp rfl
        clear hn hp
        go_wp2
        refine bodyPost_ret (v := .tuple #[.agg #[.int .i64 vn, .int .i64 vd], .bool true]) (by simp [results, Tryz.results62, go_sem]; first | done | (rw [E1.out, E2.out]; first | exact ⟨hw, rfl⟩ | exact ⟨rfl, rfl⟩)) rfl ⟨rfl, ?_⟩
        exact ((Below.refl _ _).alloc (Nat.le_refl _) _).alloc (by simp) _
end Go.Proofs.YtionognmgcabbaaGreat.Ratio
/- Lists of fractions in memory: two cells an element. Equality, marks, holding. -/
namespace Go.Proofs.YtionognmgcabbaaGreat.MemF
open Go.RowKit Go.Proofs.YtionognmgcabbaaGreat Go.Proofs.YtionognmgcabbaaGreat.Base Go.Proofs.YtionognmgcabbaaGreat.Mem
set_option linter.unusedVariables false
theorem eqFraction_yes (a b : Int) (w : World) : Calls Tryz.prog 25 #[.agg #[.int .i64 a, .int .i64 b], .agg #[.int .i64 a, .int .i64 b]] w fun e w' => e = .returned (.bool true) ∧ Below w.heap.size w w' := by
  go_enter Tryz.func25, Tryz.ntmps25
  go_wp2
  go_ret
  exact ⟨rfl, ((Below.refl _ _).alloc (Nat.le_refl _) _).alloc (by simp) _⟩
/-- the n fractions whose numbers are fs lie behind A, in a block below B -/
def RdF (w : World) (B : Nat) (A : Option Addr) (n : Nat) (fs : List Int) : Prop :=
  0 < n → ∃ b off, A = some ⟨b, off, none⟩ ∧ b < B ∧ ∀ i, i < 2 * n → w.cell? ⟨b, off + i, none⟩ = some (.int .i64 (fs.getD i 0))
theorem RdF.below {w w' : World} {B C n : Nat} {A : Option Addr} {fs : List Int} (h : RdF w B A n fs) (hb : Below C w w') (hBC : B ≤ C) : RdF w' B A n fs := fun h0 => by
  obtain ⟨b, off, e, hlt, hc⟩ := h h0
  exact ⟨b, off, e, hlt, fun i hi => (hb.cell (p := ⟨b, off + i, none⟩) (by show b < C; omega)).trans (hc i hi)⟩
theorem RdF.more {w : World} {B C n : Nat} {A : Option Addr} {fs : List Int} (h : RdF w B A n fs) (hBC : B ≤ C) : RdF w C A n fs := fun h0 => by
  obtain ⟨b, off, e, hlt, hc⟩ := h h0
  exact ⟨b, off, e, by omega, hc⟩
/-- the n fractions are the call's own -/
def OwnF (w : World) (B : Nat) (v : Value) (n : Nat) (fs : List Int) : Prop := w.ownsRow B 43 2 v n (ints fs)
theorem OwnF.len {w : World} {B n : Nat} {v : Value} {fs : List Int} (h : OwnF w B v n fs) : fs.length = 2 * n := by
  have := h.1
  rw [ints_len] at this
  omega
theorem OwnF.form {w : World} {B n : Nat} {v : Value} {fs : List Int} (h : OwnF w B v n fs) : ∃ A c, v = .slice A n c ∧ (0 < n → ∃ g, A = some ⟨g, 0, none⟩ ∧ B ≤ g ∧ g < w.heap.size) := ownsRow_form h
theorem OwnF.rd {w : World} {B n m c : Nat} {A : Option Addr} {fs : List Int} (h : OwnF w B (.slice A m c) n fs) : RdF w w.heap.size A n fs := fun h0 => by
  obtain ⟨A', c', e, hf⟩ := ownsRow_form h
  injection e with e1 e2 e3
  subst e1 e2 e3
  obtain ⟨g, rfl, _, hlt⟩ := hf h0
  refine ⟨g, 0, rfl, hlt, fun i hi => ?_⟩
  have hl := h.len
  rw [Nat.zero_add, World.ownsRow.cellAt h i (by omega), ints_get fs i (by omega)]
theorem OwnF.below {w w' : World} {B n : Nat} {v : Value} {fs : List Int} (h : OwnF w B v n fs) (hb : Below w.heap.size w w') : OwnF w' B v n fs := ownsRow_below h hb
/-- element j of a list that is read -/
theorem RdF.at {w : World} {B n : Nat} {A : Option Addr} {fs : List Int} (h : RdF w B A n fs) {j : Nat} (hj : j < n) : ∃ b off, A = some ⟨b, off, none⟩ ∧ b < B ∧ w.cell? ⟨b, off + j * 2, none⟩ = some (.int .i64 (fs.getD (2 * j) 0)) ∧ w.cell? ⟨b, off + j * 2 + 1, none⟩ = some (.int .i64 (fs.getD (2 * j + 1) 0)) := by
  obtain ⟨b, off, e, hlt, hc⟩ := h (by omega)
  refine ⟨b, off, e, hlt, ?_, ?_⟩
  · have := hc (2 * j) (by omega); rw [Nat.mul_comm j 2]; exact this
  · have := hc (2 * j + 1) (by omega); rw [← Nat.add_assoc] at this; rw [Nat.mul_comm j 2]; exact this
set_option maxHeartbeats 1000000 in
set_option maxRecDepth 100000 in
theorem heldF_yes (A : Option Addr) (c B k n : Nat) (w : World) (hx : RdF w B A n (marks k (2 * n))) (hm : k + 2 * n ≤ 1099511627776) :
    Calls Tryz.prog 21 #[.slice A n c, .int .i64 k] w fun e w' => e = .returned (.int .i64 ((k + 2 * n : Nat) : Int)) ∧ w = w' := by
  have HX := Lib.hid hx
  clear hx
  go_enter Tryz.func21, Tryz.ntmps21
  go_wp2
  go_loop [1, 5] (fun q i => ∃ j Q : Nat, j ≤ n ∧ i = .int .i64 (j : Int) ∧ q = .int .i64 (Q : Int) ∧ Hid (Q = k + 2 * j)) (fun _ i => n - (intOf i).toNat)
  case atStart => exact ⟨0, k, Nat.zero_le _, rfl, rfl, Lib.hid rfl⟩
  case round =>
    obtain ⟨j, Q, hj, rfl, rfl, hQ⟩ := hrel
    by_cases hlt : j < n
    · obtain ⟨b, off, rfl, _, h1, h2⟩ := HX.out.at hlt
      have c0 : w.cell? ⟨b, off + j * 2, none⟩ = some (.int .i64 (Q : Int)) := by
        rw [h1, marks_getD k (2 * n) (2 * j) (by omega), hQ.out]
      have c1 : w.cell? ⟨b, off + j * 2 + 1, none⟩ = some (.int .i64 ((Q : Int) + 1)) := by
        rw [h2, marks_getD k (2 * n) (2 * j + 1) (by omega), hQ.out]; congr 2
      have hQ2 : (Q : Int) ≤ 1099511627776 := by have := hQ.out; omega
      clear h1 h2
      go_wp2
      go_round
      case rel => exact ⟨j + 1, Q + 2, hlt, by go_num, by go_num, Lib.hid (by rw [hQ.out]; omega)⟩
      case measure => simp [intOf]; omega
    · obtain rfl : j = n := by omega
      go_wp2
      go_ret
      exact ⟨ret_int (by rw [hQ.out]; simp), rfl⟩
set_option maxHeartbeats 1000000 in
set_option maxRecDepth 100000 in
theorem eqF_yes (A A' : Option Addr) (c c' B B' n : Nat) (fs : List Int) (w : World) (hx : RdF w B A n fs) (hy : RdF w B' A' n fs) (hB : B ≤ w.heap.size) (hB' : B' ≤ w.heap.size) (hm : n ≤ 1099511627776) :
    Calls Tryz.prog 17 #[.slice A n c, .slice A' n c'] w fun e w' => e = .returned (.bool true) ∧ Below w.heap.size w w' := by
  have HX := Lib.hid (hx.more hB)
  have HY := Lib.hid (hy.more hB')
  clear hx hy
  go_enter Tryz.func17, Tryz.ntmps17
  go_wp2
  go_loopw [5] (fun i wr => ∃ j : Nat, j ≤ n ∧ i = .int .i64 (j : Int) ∧ Below w.heap.size w wr) (fun i _ => n - (intOf i).toNat)
  case atStart => exact ⟨0, Nat.zero_le _, rfl, Below.refl _ _⟩
  case round =>
    obtain ⟨j, hj, rfl, hb⟩ := hrel
    by_cases hlt : j < n
    · obtain ⟨b, off, rfl, hbl, h1, h2⟩ := (HX.out.below hb (Nat.le_refl _)).at hlt
      obtain ⟨b', off', rfl, hbl', h3, h4⟩ := (HY.out.below hb (Nat.le_refl _)).at hlt
      have hsz := hb.size
      have HB := Lib.hid hb
      generalize fs.getD (2 * j) 0 = v0 at *
      generalize fs.getD (2 * j + 1) 0 = v1 at *
      have H1 := Lib.hid (And.intro h1 h2)
      have H2 := Lib.hid (And.intro h3 h4)
      have hl1 : b < wr.heap.size := Nat.lt_of_lt_of_le hbl hsz
      have hl2 : b' < wr.heap.size := Nat.lt_of_lt_of_le hbl' hsz
      clear h1 h2 h3 h4 hb hbl hbl'
      obtain ⟨wo, rfl⟩ : ∃ x, x = wr := ⟨_, rfl⟩
      go_wp2
      (refine wp_region_below (by kernel_rfl) (by kernel_rfl) ?_; (repeat (refine wpQuiet_step (fun K hK => ?_); go_simp; first | (refine hK _ ?_; clear hK K) | (apply Exists.intro; refine ⟨fun wq hq => ?_, hK _ ?_⟩; (first | rfl | (have c0 := (hq.cell (p := ⟨b, off + j * 2, none⟩) hl1).trans H1.out.1; have c1 := (hq.cell (p := ⟨b, off + j * 2 + 1, none⟩) hl1).trans H1.out.2; have d0 := (hq.cell (p := ⟨b', off' + j * 2, none⟩) hl2).trans H2.out.1; have d1 := (hq.cell (p := ⟨b', off' + j * 2 + 1, none⟩) hl2).trans H2.out.2; first | (go_simp; done) | (go_simp; rfl) | (first | (go_at_call 25; refine (eqFraction_yes v0 v1 _).mono ?_; rintro e w1 ⟨rfl, hb1⟩; exact ⟨rfl, Base.Below.nextA hq hb1⟩)))); clear hK K))); refine wpQuiet_nil ?_; intro wq hq)
      have HB1 := Lib.hid (HB.out.trans (hq.mono hsz))
      clear hq
      go_wp2
      go_roundw
      case rel => exact ⟨j + 1, hlt, by go_num, HB1.out⟩
      case measure => simp [intOf]; omega
    · obtain rfl : j = n := by omega
      have HB := Lib.hid hb
      go_wp2
      go_ret
      exact ⟨rfl, HB.out⟩
theorem mark1 {w : World} {B k n c g t : Nat} {fs : List Int} {v : Int} (h : w.ownsRow B 43 2 (.slice (some ⟨g, 0, none⟩) n c) n (ints (marks k t ++ fs.drop t))) (ht : t < fs.length) (hv : v = ((k + t : Nat) : Int)) :
    (w.setCell ⟨g, t, none⟩ (.int .i64 v)).ownsRow B 43 2 (.slice (some ⟨g, 0, none⟩) n c) n (ints (marks k (t + 1) ++ fs.drop (t + 1))) ∧ w.grownBy (w.setCell ⟨g, t, none⟩ (.int .i64 v)) (some g) := by
  subst hv
  obtain ⟨h1, h2⟩ := h.stored t (.int .i64 ((k + t : Nat) : Int))
  rw [ints_set, mixed_set k t fs ht] at h1
  exact ⟨h1, h2⟩
def chain2 (w : World) (g q Q : Nat) : World := (w.setCell ⟨g, q, none⟩ (.int .i64 (Q : Int))).setCell ⟨g, q + 1, none⟩ (.int .i64 ((Q : Int) + 1))
theorem mark2 {w : World} {B k n c g q Q : Nat} {fs : List Int} (h : w.ownsRow B 43 2 (.slice (some ⟨g, 0, none⟩) n c) n (ints (marks k q ++ fs.drop q))) (ht : q + 2 ≤ fs.length) (hQ : Q = k + q) :
    (chain2 w g q Q).ownsRow B 43 2 (.slice (some ⟨g, 0, none⟩) n c) n (ints (marks k (q + 2) ++ fs.drop (q + 2))) ∧ w.grownBy (chain2 w g q Q) (some g) := by
  obtain ⟨h1, g1⟩ := mark1 (t := q) (v := (Q : Int)) h (by omega) (by omega)
  obtain ⟨h2, g2⟩ := mark1 (t := q + 1) (v := (Q : Int) + 1) h1 (by omega) (by omega)
  exact ⟨h2, grown_trans g1 g2⟩
def MarkRelF (B k n : Nat) (A : Option Addr) (c : Nat) (fs : List Int) (w : World) (q i : Value) (wr : World) : Prop :=
  ∃ j Q : Nat, j ≤ n ∧ i = .int .i64 (j : Int) ∧ q = .int .i64 (Q : Int) ∧ Hid (Q = k + 2 * j) ∧ Hid (wr.ownsRow B 43 2 (.slice A n c) n (ints (marks k (2 * j) ++ fs.drop (2 * j)))) ∧ Hid (w.grownBy wr (Value.slice A n c).ownBlock)
set_option maxHeartbeats 1000000 in
set_option maxRecDepth 100000 in
theorem markF_any (A : Option Addr) (c B k n : Nat) (fs : List Int) (w : World) (hx : OwnF w B (.slice A n c) n fs) (hm : k + 2 * n ≤ 1099511627776) :
    Calls Tryz.prog 20 #[.slice A n c, .int .i64 k] w fun e w' => e = .returned (.int .i64 ((k + 2 * n : Nat) : Int)) ∧ OwnF w' B (.slice A n c) n (marks k (2 * n)) ∧ w.grownBy w' (Value.slice A n c).ownBlock := by
  have hlen := Lib.hid hx.len
  have H0 : Hid (MarkRelF B k n A c fs w (.int .i64 (k : Int)) (.int .i64 0) w) := Lib.hid ⟨0, k, Nat.zero_le _, rfl, rfl, Lib.hid rfl, Lib.hid (by have h0 : w.ownsRow B 43 2 (.slice A n c) n (ints fs) := hx; simpa [marks] using h0), Lib.hid (World.grownBy.refl w _)⟩
  clear hx
  go_enter Tryz.func20, Tryz.ntmps20
  go_wp2
  go_loopw [1, 5] (fun q i wr => MarkRelF B k n A c fs w q i wr) (fun _ i _ => n - (intOf i).toNat)
  case atStart => exact H0.out
  case round =>
    obtain ⟨j, Q, hj, rfl, rfl, hQ, hrow, hg⟩ := hrel
    by_cases hlt : j < n
    · obtain ⟨A', c', e, hf⟩ := ownsRow_form hrow.out
      injection e with e1 e2 e3
      subst e1 e3
      obtain ⟨g, rfl, _, _⟩ := hf (by omega)
      have hl := hlen.out
      have hcell : ∀ i, i < 2 → ∃ x : Int, wr.cell? ⟨g, j * 2 + i, none⟩ = some (.int .i64 x) := fun i hi => by
        have e1 := World.ownsRow.cellAt hrow.out (j * 2 + i) (by omega)
        rw [ints_get _ (j * 2 + i) (by simp [marks_len]; omega)] at e1
        exact ⟨_, e1⟩
      obtain ⟨x0, c0⟩ := hcell 0 (by decide)
      obtain ⟨x1, c1⟩ := hcell 1 (by decide)
      have z0 := hrow.out.frozenAt (j * 2)
      have z1 := hrow.out.frozenAt (j * 2 + 1)
      rw [Nat.add_zero] at c0
      have HN : Hid (MarkRelF B k n (some ⟨g, 0, none⟩) c fs w (.int .i64 ((Q : Int) + 1 + 1)) (.int .i64 ((j : Int) + 1)) (chain2 wr g (j * 2) Q)) := Lib.hid (by
        have h7 := mark2 (q := j * 2) (Q := Q) (k := k) (fs := fs) (by rw [Nat.mul_comm j 2]; exact hrow.out) (by omega) (by have := hQ.out; omega)
        rw [show j * 2 + 2 = 2 * (j + 1) by omega] at h7
        exact ⟨j + 1, Q + 2, hlt, by simp, by go_num, Lib.hid (by have := hQ.out; omega), Lib.hid h7.1, Lib.hid (grown_trans hg.out h7.2)⟩)
      have hQ2 : (Q : Int) + 2 ≤ 1099511627776 := by have := hQ.out; omega
      clear hrow hg hf hcell hl
      unfold chain2 at HN
      go_wp2
      go_roundw
      case rel => exact HN.out
      case measure => simp [intOf]; omega
    · obtain rfl : j = n := by omega
      have HR : Hid (OwnF wr B (.slice A j c) j (marks k (2 * j))) := Lib.hid (by
        have := hrow.out
        rw [List.drop_of_length_le (by have := hlen.out; omega), List.append_nil] at this
        exact this)
      clear hrow
      go_wp2
      go_ret
      exact ⟨ret_int (by rw [hQ.out]), HR.out, hg.out⟩
theorem infoFr : (Tryz.prog.info? 43).map (fun i => (i.zero, i.size, i.bytes)) = some (some (.agg #[.int .i64 0, .int .i64 0]), 2, 16) := by kernel_rfl
theorem news_two (w : World) (t : TypeId) {u0 u1 : Value} {g : Nat} (hg : g = w.heap.size) : ∀ (j : Nat) (x : Value), [u0, u1][j]? = some x → (w.alloc (.cells #[u0, u1] t)).cell? ((⟨g, 0, none⟩ : Addr).add j) = some x := by
  subst hg
  intro j x hx
  have e : (#[u0, u1] : Array Value)[j]? = some x := by rw [← Array.getElem?_toList]; exact hx
  rw [Addr.add_lit]
  exact (World.cell?_alloc_new w #[u0, u1] t (0 + j)).trans (by rw [Nat.zero_add]; exact e)
theorem ones_two {a b : Int} : ∀ u ∈ [Value.int .i64 a, .int .i64 b], u.oneCell' = true := by
  intro u hu
  simp only [List.mem_cons, List.not_mem_nil, or_false] at hu
  rcases hu with rfl | rfl <;> rfl
theorem OwnF_above {w w' : World} {B n : Nat} {v : Value} {fs : List Int} (h : OwnF w B v n fs) (hb : Above B w w') : OwnF w' B v n fs := ownsRow_above h hb
/-- a list of fractions that is returned, and whether there is one -/
def FsRet (N : Nat) (R : List Int) (ok : Bool) (w : World) (e : Ending) (w' : World) : Prop := ∃ A c, e = .returned (.tuple #[.slice A N c, .bool ok]) ∧ OwnF w' w.heap.size (.slice A N c) N R ∧ Below w.heap.size w w'
theorem FsRet.no {w w' : World} (h : Below w.heap.size w w') : FsRet 0 [] false w (.returned (.tuple #[.slice none 0 0, .bool false])) w' := ⟨none, 0, rfl, World.ownsRow_nil _ _ _ _, h⟩
end Go.Proofs.YtionognmgcabbaaGreat.MemF

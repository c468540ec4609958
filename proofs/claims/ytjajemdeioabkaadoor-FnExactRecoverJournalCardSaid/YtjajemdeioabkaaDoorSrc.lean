/- The source of choices: next, pick, one. -/
import Derived.Test.YtjajemdeioabkaaDoorMem
import Derived.Laws.BitsAllLaws
import Derived.IntWalk
namespace Go.Proofs.YtjajemdeioabkaaDoor.Src
open Go.RowKit Go.Proofs.YtjajemdeioabkaaDoor Go.Proofs.YtjajemdeioabkaaDoor.Base Go.Proofs.YtjajemdeioabkaaDoor.Mem
set_option linter.unusedVariables false
/-- a source, of at most K choices so far -/
structure Src (w : World) (p K : Nat) : Prop where
  ex : ∃ (A : Option Addr) (c : Nat) (zs : List Int) (at_ : Nat) (sd : Int), w.cell? ⟨p, 0, none⟩ = some (.slice A zs.length c) ∧ w.cell? ⟨p, 1, none⟩ = some (.int .i64 (at_ : Int)) ∧ w.cell? ⟨p, 2, none⟩ = some (.int .u64 sd) ∧
    (∀ i, w.frozen? ⟨p, i, none⟩ = false) ∧ at_ ≤ K ∧ 0 ≤ sd ∧ sd ≤ 18446744073709551615 ∧ zs.length ≤ 9223372036854775807 ∧ (∀ z ∈ zs, 0 ≤ z ∧ z ≤ 255) ∧ RdB w p A zs
theorem Src.lt {w : World} {p K : Nat} (h : Src w p K) : p < w.heap.size := by
  obtain ⟨A, c, zs, a, sd, h0, _⟩ := h.ex
  exact block_lt_of_cell h0
theorem RdB.keep {w w' : World} {B p : Nat} {A : Option Addr} {zs : List Int} (h : RdB w B A zs) (hB : B ≤ p) (hw : ∀ g, g < B → w'.heap[g]? = w.heap[g]?) : RdB w' B A zs := fun h0 => by
  obtain ⟨b, off, e, hlt, hc⟩ := h h0
  exact ⟨b, off, e, hlt, fun i hi => (World.cell?_of_block (a := ⟨b, off + i, none⟩) (hw b hlt)).trans (hc i hi)⟩
theorem Src.below {w w' : World} {p K : Nat} (h : Src w p K) (hb : Below w.heap.size w w') : Src w' p K := by
  have hp := h.lt
  obtain ⟨A, c, zs, a, sd, h0, h1, h2, hf, h3, h4, h5, h6, h7, h8⟩ := h.ex
  exact ⟨A, c, zs, a, sd, (hb.cell (p := ⟨p, 0, none⟩) hp).trans h0, (hb.cell (p := ⟨p, 1, none⟩) hp).trans h1, (hb.cell (p := ⟨p, 2, none⟩) hp).trans h2, fun i => (hb.frozen (p := ⟨p, i, none⟩) hp).trans (hf i), h3, h4, h5, h6, h7, h8.below hb (by omega)⟩
theorem Src.kept {w w' : World} {p K : Nat} {row : Option Nat} (h : Src w p K) (hg : w.grownBy w' row) (hr : ∀ g, row = some g → p < g) : Src w' p K := by
  have hp := h.lt
  have hk : ∀ g, g ≤ p → w'.heap[g]? = w.heap[g]? := fun g hgp => hg.block g (by omega) fun e => by have := hr g e.symm; omega
  obtain ⟨A, c, zs, a, sd, h0, h1, h2, hf, h3, h4, h5, h6, h7, h8⟩ := h.ex
  have hc : ∀ i, w'.cell? ⟨p, i, none⟩ = w.cell? ⟨p, i, none⟩ := fun i => World.cell?_of_block (a := ⟨p, i, none⟩) (hk p (Nat.le_refl _))
  exact ⟨A, c, zs, a, sd, (hc 0).trans h0, (hc 1).trans h1, (hc 2).trans h2, fun i => (World.frozen?_of_block (a := ⟨p, i, none⟩) (hk p (Nat.le_refl _))).trans (hf i), h3, h4, h5, h6, h7, RdB.keep h8 (Nat.le_refl _) fun g hg => hk g (by omega)⟩
theorem Src.more {w : World} {p K L : Nat} (h : Src w p K) (hKL : K ≤ L) : Src w p L := by
  obtain ⟨A, c, zs, a, sd, h0, h1, h2, hf, h3, h4⟩ := h.ex
  exact ⟨A, c, zs, a, sd, h0, h1, h2, hf, by omega, h4⟩
theorem grown_setCell (w : World) (a : Addr) (v : Value) : w.grownBy (w.setCell a v) (some a.block) := by
  refine ⟨rfl, rfl, rfl, by simp, fun k hk hne => ?_⟩
  have : k ≠ a.block := fun e => hne (by rw [e])
  simp [World.setCell, Array.getElem?_modify, Ne.symm this]
theorem grown_drewN (w : World) (n : Nat) (row : Option Nat) : w.grownBy (w.drewN n) row := ⟨rfl, rfl, rfl, Nat.le_refl _, fun _ _ _ => rfl⟩
theorem and255 (x : Int) (h0 : 0 ≤ x) (h : x ≤ 18446744073709551615) : bits .and .u64 x 255 = x % 256 := by
  have := u64_and_nat x.toNat 255 (by omega) (by omega)
  rw [show (255 : Nat) = 2 ^ 8 - 1 from rfl, Nat.and_two_pow_sub_one_eq_mod] at this
  have e : (x.toNat : Int) = x := by omega
  rw [e, show ((2 ^ 8 - 1 : Nat) : Int) = 255 from rfl] at this
  rw [this]; omega
theorem u64_rng (x : Int) : 0 ≤ IntKind.u64.wrap x ∧ IntKind.u64.wrap x ≤ 18446744073709551615 := by
  rw [IntKind.wrap_u64]; omega
/-- what a choice hands back -/
def NextRet (p K m : Nat) (w : World) (e : Ending) (w' : World) : Prop := ∃ r : Nat, e = .returned (.int .i64 r) ∧ r < m ∧ Src w' p K ∧ w.grownBy w' (some p)
theorem Src.set {w : World} {p K L a2 : Nat} {sd2 : Int} (h : Src w p K) (hL : a2 ≤ L) (hs : 0 ≤ sd2 ∧ sd2 ≤ 18446744073709551615) : Src ((w.setCell ⟨p, 1, none⟩ (.int .i64 (a2 : Int))).setCell ⟨p, 2, none⟩ (.int .u64 sd2)) p L ∧
    w.grownBy ((w.setCell ⟨p, 1, none⟩ (.int .i64 (a2 : Int))).setCell ⟨p, 2, none⟩ (.int .u64 sd2)) (some p) := by
  have hg := grown_trans (grown_setCell w ⟨p, 1, none⟩ (.int .i64 (a2 : Int))) (grown_setCell _ ⟨p, 2, none⟩ (.int .u64 sd2))
  refine ⟨?_, hg⟩
  obtain ⟨A, c, zs, a, sd, h0, h1, h2, hf, h3, h4, h5, h6, h7, h8⟩ := h.ex
  refine ⟨A, c, zs, a2, sd2, ?_, ?_, ?_, fun i => by simpa using hf i, hL, hs.1, hs.2, h6, h7, ?_⟩
  · rw [World.cell?_setCell_other _ _ _ _ (by simp), World.cell?_setCell_other _ _ _ _ (by simp)]; exact h0
  · rw [World.cell?_setCell_other _ _ _ _ (by simp)]; exact World.cell?_setCell_same _ _ _ h1
  · refine World.cell?_setCell_same (u := .int .u64 sd) _ _ _ ?_
    rw [World.cell?_setCell_other _ _ _ _ (by simp)]; exact h2
  · exact RdB.keep h8 (Nat.le_refl _) fun g hgp => hg.block g (by have := h.lt; omega) fun e => by
      have : g = p := Option.some.inj e
      omega
/-- what holds behind the two stores -/
theorem Src.put {w : World} {p K L a a2 n : Nat} {sd2 : Int} {v : Value} (h : Src w p K) (hv : w.cell? ⟨p, 0, none⟩ = some v) (hL : a2 ≤ L) (hs : 0 ≤ sd2 ∧ sd2 ≤ 18446744073709551615) (w2 : World) (h2 : ((w.drewN n).setCell ⟨p, 1, none⟩ (.int .i64 (a2 : Int))).setCell ⟨p, 2, none⟩ (.int .u64 sd2) = w2) :
    Src w2 p L ∧ w.grownBy w2 (some p) ∧ w2.cell? ⟨p, 0, none⟩ = some v ∧ w2.cell? ⟨p, 1, none⟩ = some (.int .i64 (a2 : Int)) ∧ w2.cell? ⟨p, 2, none⟩ = some (.int .u64 sd2) := by
  have hd : Src (w.drewN n) p K := h.below (below_drewN (Below.refl _ _) n)
  obtain ⟨g1, g2⟩ := hd.set hL hs
  rw [h2] at g1 g2
  refine ⟨g1, grown_trans (grown_drewN w n _) g2, ?_, ?_, ?_⟩
  all_goals subst h2
  · rw [World.cell?_setCell_other _ _ _ _ (by simp), World.cell?_setCell_other _ _ _ _ (by simp)]; simpa using hv
  · obtain ⟨A, c, zs, a', sd, _, h1, _⟩ := hd.ex
    rw [World.cell?_setCell_other _ _ _ _ (by simp)]; exact World.cell?_setCell_same _ _ _ h1
  · obtain ⟨A, c, zs, a', sd, _, _, h1, _⟩ := hd.ex
    refine World.cell?_setCell_same (u := .int .u64 sd) _ _ _ ?_
    rw [World.cell?_setCell_other _ _ _ _ (by simp)]; exact h1
def PickRet (p K : Nat) (n : Int) (w : World) (e : Ending) (w' : World) : Prop := ∃ r : Nat, e = .returned (.int .i64 r) ∧ (r = 0 ∨ (r : Int) < n) ∧ Src w' p K ∧ w.grownBy w' (some p)
def OneRet (p K : Nat) (w : World) (e : Ending) (w' : World) : Prop := ∃ r : Bool, e = .returned (.bool r) ∧ Src w' p K ∧ w.grownBy w' (some p)
end Go.Proofs.YtjajemdeioabkaaDoor.Src

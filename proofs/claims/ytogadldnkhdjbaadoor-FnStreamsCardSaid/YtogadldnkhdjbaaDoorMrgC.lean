/- A block of cells of the call's own: what its cells hold, however they are written. -/
import Derived.Test.YtogadldnkhdjbaaDoorSrc
import Derived.Lib.Builder
import Derived.StillTailTactics
import Derived.Test.YtogadldnkhdjbaaDoorBase
import Derived.StillTail
import Derived.Deep.Quiet
import Derived.Test.YtogadldnkhdjbaaDoorCongLaw
import Derived.IntWalk
import Derived.Test.YtogadldnkhdjbaaDoorTakeExact
import Derived.Test.YtogadldnkhdjbaaDoorJumpLaw
namespace Go.Proofs.YtogadldnkhdjbaaDoor.Blk
open Go.RowKit Go.Proofs.YtogadldnkhdjbaaDoor Go.Proofs.YtogadldnkhdjbaaDoor.Base Go.Proofs.YtogadldnkhdjbaaDoor.Mem
set_option linter.unusedVariables false
/-- block b holds the cells cs, and may be written -/
def Blk (w : World) (b : Nat) (t : TypeId) (cs : Array Value) : Prop := w.heap[b]? = some (.cells cs t (0, 0))
section
variable {w w' : World} {b : Nat} {t : TypeId} {cs : Array Value}
theorem Blk.new (w : World) (t : TypeId) (cs : Array Value) : Blk (w.alloc (.cells cs t)) w.heap.size t cs := by
  unfold Blk
  show (w.heap.push _)[w.heap.size]? = _
  simp
theorem Blk.newAt {n : Nat} (t : TypeId) (cs : Array Value) (h : n = w.heap.size) : Blk (w.alloc (.cells cs t)) n t cs := h ▸ Blk.new w t cs
theorem Blk.lt (h : Blk w b t cs) : b < w.heap.size := by
  rcases Nat.lt_or_ge b w.heap.size with hlt | hge
  · exact hlt
  · unfold Blk at h; rw [Array.getElem?_eq_none hge] at h; cases h
theorem Blk.cell (h : Blk w b t cs) (i : Nat) : w.cell? ⟨b, i, none⟩ = cs[i]? := Lib.cell_of_heap h i
theorem Blk.at (h : Blk w b t cs) (i : Nat) {v : Value} (hv : cs[i]? = some v) : w.cell? ⟨b, i, none⟩ = some v := (h.cell i).trans hv
theorem Blk.frz (h : Blk w b t cs) (i : Nat) : w.frozen? ⟨b, i, none⟩ = false := Lib.frozen_of_heap h i
theorem Blk.below {B : Nat} (h : Blk w b t cs) (hb : Below B w w') (hB : b < B) : Blk w' b t cs := (hb.block b hB).trans h
theorem Blk.belowS (h : Blk w b t cs) (hb : Below w.heap.size w w') : Blk w' b t cs := h.below hb h.lt
theorem Blk.kept {row : Option Nat} (h : Blk w b t cs) (hg : w.grownBy w' row) (hne : row ≠ some b) : Blk w' b t cs := (hg.block b h.lt fun e => hne e.symm).trans h
theorem Blk.alloc (h : Blk w b t cs) (o : Obj) : Blk (w.alloc o) b t cs := h.belowS ((Below.refl _ _).alloc (Nat.le_refl _) _)
theorem Blk.drewN (h : Blk w b t cs) (n : Nat) : Blk (w.drewN n) b t cs := h
theorem Blk.drew (h : Blk w b t cs) : Blk w.drew b t cs := h
theorem Blk.set (h : Blk w b t cs) (i : Nat) (v : Value) : Blk (w.setCell ⟨b, i, none⟩ v) b t (cs.setIfInBounds i v) := by
  unfold Blk at *
  simp [World.setCell, Array.getElem?_modify, h]
theorem Blk.other (h : Blk w b t cs) {a : Addr} (v : Value) (hne : a.block ≠ b) : Blk (w.setCell a v) b t cs :=
  h.kept (Src.grown_setCell w a v) fun e => hne (Option.some.inj e)
theorem Blk.setTo {cs' : Array Value} (h : Blk w b t cs) (i : Nat) (v : Value) (hc : cs.setIfInBounds i v = cs') : Blk (w.setCell ⟨b, i, none⟩ v) b t cs' := hc ▸ h.set i v
/-- three cells laid anew -/
def put3 (w : World) (b : Nat) (v0 v1 v2 : Value) : World := ((w.setCell ⟨b, 0, none⟩ v0).setCell ⟨b, 1, none⟩ v1).setCell ⟨b, 2, none⟩ v2
theorem Blk.set3 {u0 u1 u2 : Value} (h : Blk w b t #[u0, u1, u2]) (v0 v1 v2 : Value) : Blk (put3 w b v0 v1 v2) b t #[v0, v1, v2] :=
  ((h.setTo 0 v0 rfl).setTo 1 v1 rfl).setTo 2 v2 rfl
theorem Blk.oth3 {b' : Nat} (h : Blk w b t cs) (v0 v1 v2 : Value) (hne : b' ≠ b) : Blk (put3 w b' v0 v1 v2) b t cs := ((h.other v0 hne).other v1 hne).other v2 hne
theorem below_put3 {B b' : Nat} {w0 : World} (h : Below B w0 w) (hB : B ≤ b') (v0 v1 v2 : Value) : Below B w0 (put3 w b' v0 v1 v2) :=
  ((h.setCell (p := ⟨b', 0, none⟩) hB v0).setCell (p := ⟨b', 1, none⟩) hB v1).setCell (p := ⟨b', 2, none⟩) hB v2
theorem size_put3 (w : World) (b' : Nat) (v0 v1 v2 : Value) : (put3 w b' v0 v1 v2).heap.size = w.heap.size := by simp [put3]
end
/-- blocks of w other than p are as they were -/
structure Beside (p : Nat) (w w' : World) : Prop where
  os : w'.os = w.os
  tape : w'.tape = w.tape
  output : w'.output = w.output
  size : w.heap.size ≤ w'.heap.size
  same : ∀ q, q < w.heap.size → q ≠ p → w'.heap[q]? = w.heap[q]?
theorem Beside.refl (p : Nat) (w : World) : Beside p w w := ⟨rfl, rfl, rfl, Nat.le_refl _, fun _ _ _ => rfl⟩
theorem Beside.trans {p : Nat} {a b c : World} (h : Beside p a b) (k : Beside p b c) : Beside p a c :=
  ⟨k.os.trans h.os, k.tape.trans h.tape, k.output.trans h.output, Nat.le_trans h.size k.size, fun q h1 h2 => (k.same q (Nat.lt_of_lt_of_le h1 h.size) h2).trans (h.same q h1 h2)⟩
theorem Beside.grown {p : Nat} {w w' : World} (h : w.grownBy w' (some p)) : Beside p w w' := ⟨h.os, h.tape, h.output, h.size, fun q h1 h2 => h.block q h1 fun e => h2 (Option.some.inj e)⟩
theorem Beside.ofBelow {p : Nat} {w w' : World} (h : Below w.heap.size w w') : Beside p w w' := ⟨h.os, h.tape, h.output, h.size, fun q h1 _ => h.block q h1⟩
theorem Beside.below {p B : Nat} {w w' : World} (h : Beside p w w') (hp : B ≤ p) (hB : B ≤ w.heap.size) : Below B w w' := ⟨h.os, h.tape, h.output, h.size, fun q hq => h.same q (by omega) (by omega)⟩
theorem Beside.alloc {p : Nat} {w w' : World} (h : Beside p w w') (o : Obj) : Beside p w (w'.alloc o) := h.trans (Beside.ofBelow ((Below.refl _ _).alloc (Nat.le_refl _) o))
theorem Beside.drewN {p : Nat} {w w' : World} (h : Beside p w w') (n : Nat) : Beside p w (w'.drewN n) := h.trans (Beside.ofBelow (below_drewN (Below.refl _ _) n))
theorem Beside.drew {p : Nat} {w w' : World} (h : Beside p w w') : Beside p w w'.drew := h.drewN 1
/-- a store into a block that is younger than w -/
theorem Beside.set {p : Nat} {w w' : World} (h : Beside p w w') {a : Addr} (ha : w.heap.size ≤ a.block) (v : Value) : Beside p w (w'.setCell a v) := by
  have g := Src.grown_setCell w' a v
  exact ⟨g.os.trans h.os, g.tape.trans h.tape, g.output.trans h.output, Nat.le_trans h.size g.size, fun q h1 h2 => (g.block q (Nat.lt_of_lt_of_le h1 h.size) fun e => by have := Option.some.inj e; omega).trans (h.same q h1 h2)⟩
theorem Blk.beside {p b : Nat} {t : TypeId} {cs : Array Value} {w w' : World} (h : Blk w b t cs) (hb : Beside p w w') (hne : b ≠ p) : Blk w' b t cs := (hb.same b h.lt hne).trans h
theorem Blk.src {p b : Nat} {t : TypeId} {cs : Array Value} {w w' : World} (h : Blk w b t cs) (hg : w.grownBy w' (some p)) (hne : b ≠ p) : Blk w' b t cs := h.kept hg fun e => hne (Option.some.inj e).symm
end Go.Proofs.YtogadldnkhdjbaaDoor.Blk
/- A region that draws its order: a head whose operations leave a class of worlds (reads, calls that lay new memory), and a tail that waits for all of it and goes one operation after another. One walk serves every order. -/
namespace Go.Proofs.YtogadldnkhdjbaaDoor.Tail
open Go.RowKit Go.Proofs.YtogadldnkhdjbaaDoor Go.Proofs.YtogadldnkhdjbaaDoor.Base
set_option linter.unusedVariables false
section
variable {P : Program} {ops : Array Oper} {md : Region.Mode} {C : World → Prop}
/-- whatever order of the head is picked -/
def wpAnyT (P : Program) (md : Region.Mode) (ops : Array Oper) (C : World → Prop) (n : Nat) (L : Array Bool → Act → Prop) : Nat → Array Bool → Act → Prop
  | 0, listed, a => L listed a
  | f + 1, listed, a => Region.ready md ops listed ≠ [] ∧ ∀ i ∈ Region.ready md ops listed, i < n ∧ qOp P ops C i (wpAnyT P md ops C n L f (listed.setIfInBounds i true)) a
theorem wpAny_of_headT {n g : Nat} {L : Array Bool → Act → Prop} {Q' : Exit → Act → World → Prop} (hL : ∀ listed a w, C w → L listed a → wpAny P md ops Q' g listed a w) :
    ∀ (f : Nat) (listed : Array Bool) (a : Act) (w : World), C w → wpAnyT P md ops C n L f listed a → wpAny P md ops Q' (f + g) listed a w
  | 0, listed, a, w, hw, h => by rw [Nat.zero_add]; exact hL _ _ _ hw h
  | f + 1, listed, a, w, hw, h => by
    rw [show f + 1 + g = (f + g) + 1 by omega]
    exact ⟨fun h0 => absurd h0 h.1, fun i hi => wpOp_of_qOp hw (fun a' w' hw' h' => wpAny_of_headT hL f _ a' w' hw' h') (h.2 i hi).2⟩
theorem wpAnyT_first {n i : Nat} {oi : Oper} {v : Value} {L : Array Bool → Act → Prop} (hi : ops[i]? = some oi) (hsel : ∀ (j : Nat) (o : Oper) cs b, ops[j]? = some o → o.op ≠ .select cs b)
    (hs : Region.sinkB md ops n = true) (hc : Region.chainB md ops n = true) (hn : n < ops.size) (hin : i < n)
    (hdone : ∀ listed a, L listed a → ∀ j ∈ Region.ready md ops listed, n ≤ j) :
    ∀ (f : Nat) (listed : Array Bool) (a : Act), HeadInv md ops n listed →
      (∀ j oj, ops[j]? = some oj → j ≠ i → listed.getD j true = false → (∀ e ∈ oj.after, Region.binds md e = true → e.on ≠ i) → oi.apart ops oj = true) →
      i ∈ Region.ready md ops listed → YieldsIn P ops C oi v a →
      wpAnyT P md ops C n L f (listed.setIfInBounds i true) (a.put oi.dst v) → wpAnyT P md ops C n L (f + 1) listed a := by
  intro f
  induction f with
  | zero =>
    intro listed a inv _ hr hy H
    have hun := (mem_ready.1 hr).1
    refine ⟨fun h => (by rw [h] at hr; cases hr), fun j hj => ?_⟩
    have hjn : j < n := by
      rcases Nat.lt_or_ge j n with h | h
      · exact h
      · exact absurd hj (tail_waits hs hc hn inv _ i rfl hin hun j h)
    refine ⟨hjn, ?_⟩
    by_cases hji : j = i
    · subst hji; exact hy.qOp hi H
    · have := hdone _ _ H j (ready_mono hj hji)
      omega
  | succ f ih =>
    intro listed a inv hfree hr hy H
    have hun := (mem_ready.1 hr).1
    refine ⟨fun h => (by rw [h] at hr; cases hr), fun j hj => ?_⟩
    have hjn : j < n := by
      rcases Nat.lt_or_ge j n with h | h
      · exact h
      · exact absurd hj (tail_waits hs hc hn inv _ i rfl hin hun j h)
    refine ⟨hjn, ?_⟩
    by_cases hji : j = i
    · subst hji; exact hy.qOp hi H
    · have h1 := (H.2 j (ready_mono hj hji)).2
      obtain ⟨hjun, oj, hoj, hall⟩ := mem_ready.1 hj
      have hnot : ∀ e ∈ oj.after, Region.binds md e = true → e.on ≠ i := fun e he hb heq => by
        have h1 := hall e he hb
        rw [heq, getD_both hun] at h1
        cases h1
      have h2 := qOp_put hoj (hfree j oj hoj hji hjun hnot) (fun cs b => hsel i oi cs b hi) (fun cs b => hsel j oj cs b hoj) hy h1
      have hfree' : ∀ k ok, ops[k]? = some ok → k ≠ i → (listed.setIfInBounds j true).getD k true = false →
          (∀ e ∈ ok.after, Region.binds md e = true → e.on ≠ i) → oi.apart ops ok = true := fun k ok hk hki hun hno => by
        refine hfree k ok hk hki ?_ hno
        by_cases hjk : j = k
        · subst hjk; exact hjun
        · rw [getD_set_ne true hjk] at hun; exact hun
      refine qOp_mono (fun a' h3 => ih (listed.setIfInBounds j true) a' (inv.set hj hjn) hfree' (ready_mono hr (Ne.symm hji)) h3.1 ?_) h2
      rw [Array.setIfInBounds_comm _ _ hji]
      exact h3.2
theorem wpAnyT_lex {n g : Nat} {Lq : Act → Prop} (hsel : Region.noSelect ops = true) (hs : Region.sinkB md ops n = true) (hc : Region.chainB md ops n = true) (hn : n < ops.size) :
    ∀ (l : List Oper) (k : Nat) (listed : Array Bool) (a : Act), (∀ j, j < l.length → l[j]? = ops[k + j]?) → k + l.length = n → HeadInv md ops n listed →
    Region.lexHead md ops g l.length k listed = true → wpQuiet P ops C Lq l a →
    wpAnyT P md ops C n (fun listed' a' => Region.seqB md ops g n listed' = true ∧ Lq a') l.length listed a
  | [], k, listed, a, _, hk, _, hB, h => by
    have : k = n := by simpa using hk
    subst this
    exact ⟨by simpa [Region.lexHead] using hB, h⟩
  | o :: l, k, listed, a, hl, hk, inv, hB, h => by
    have h0 : ops[k]? = some o := by simpa using (hl 0 (by simp)).symm
    simp only [List.length_cons, Region.lexHead, Bool.and_eq_true] at hB
    obtain ⟨⟨hr, hf⟩, hB'⟩ := hB
    have hkn : k < n := by simp only [List.length_cons] at hk; omega
    have hr' : k ∈ Region.ready md ops listed := by simpa using hr
    have hst : qOp P ops C k (wpQuiet P ops C Lq l) a := by unfold qOp; simp only [h0]; exact h
    obtain ⟨v, hy, hK⟩ := yieldsIn_of_qOp h0 hst
    exact wpAnyT_first h0 (Region.noSelect_spec hsel) hs hc hn hkn (fun listed' a' hL => seqB_ready hL.1) l.length listed a inv (Region.free_spec h0 hf) hr' hy
      (wpAnyT_lex hsel hs hc hn l (k + 1) _ _ (fun j hj => by have := hl (j + 1) (by simp; omega); simpa [Nat.add_assoc, Nat.add_comm 1 j] using this) (by simp only [List.length_cons] at hk; omega) (inv.set hr' hkn) hB' hK)
theorem wp_region_quiet_tail {id : Nat} {Q : Exit → Act → World → Prop} {a : Act} {w : World} {l : List Oper} (n : Nat) (hm : P.follows .mixedOrders = true) (hB : Region.lexTailB .any l.toArray n = true) (hC : C { w with drawn := w.drawn + 1 })
    (h : wpQuiet P l.toArray C (fun a' => ∀ w', C w' → wpList P l.toArray Q (l.drop n) a' w') (l.take n) a) : (Code.region id l.toArray true).wp P Q a w := by
  simp only [Region.lexTailB, Bool.and_eq_true, decide_eq_true_eq] at hB
  obtain ⟨⟨⟨⟨hsel, hn⟩, hs⟩, hc⟩, hlex⟩ := hB
  have hn' : n < l.length := by simpa using hn
  have htl : (l.take n).length = n := by simp; omega
  have hdl : (l.drop n).length = l.toArray.size - n := by simp
  have inv0 : HeadInv .any l.toArray n (Array.replicate l.toArray.size false) :=
    ⟨by simp, fun j oj _ hl => (by rw [getD_replicate_false] at hl; cases hl), fun t _ ht => getD_in (by simpa using ht) (getD_replicate_false _ _)⟩
  have H := wpAnyT_lex (C := C) (md := .any) (g := l.toArray.size - n) hsel hs hc hn (l.take n) 0 _ a (fun j hj => by
    have hj' : j < n := by rw [htl] at hj; exact hj
    simp [hj']) (by simpa using htl) inv0 (by rw [htl]; exact hlex) h
  refine wp_region_any hm ?_
  have := wpAny_of_headT (Q' := Q) (g := l.toArray.size - n) (fun listed a' w' hw' hL => by
    have := wpAny_of_seq (md := .any) (Q' := Q) (l.drop n) n listed a' w' (fun j => by simp [List.getElem?_drop]) (by rw [hdl]; exact hL.1) (hL.2 w' hw')
    rwa [hdl] at this) _ _ _ _ hC H
  rw [htl, show n + (l.toArray.size - n) = l.toArray.size by omega] at this
  exact this
/-- the class: everything that was there before stays -/
theorem wp_region_below_tail {id : Nat} {Q : Exit → Act → World → Prop} {a : Act} {w : World} {l : List Oper} (n : Nat) (hm : P.follows .mixedOrders = true) (hB : Region.lexTailB .any l.toArray n = true)
    (h : wpQuiet P l.toArray (Below w.heap.size w) (fun a' => ∀ w', Below w.heap.size w w' → wpList P l.toArray Q (l.drop n) a' w') (l.take n) a) : (Code.region id l.toArray true).wp P Q a w :=
  wp_region_quiet_tail n hm hB ((Below.refl w.heap.size w).drew) h
end
end Go.Proofs.YtogadldnkhdjbaaDoor.Tail
/- The congruence of many steps, by doubling: of the program and of the reference. -/
namespace Go.Proofs.YtogadldnkhdjbaaDoor.Pow
open Go.RowKit Go.Proofs.YtogadldnkhdjbaaDoor Go.Proofs.YtogadldnkhdjbaaDoor.Base Go.Proofs.YtogadldnkhdjbaaDoor.Mem Go.Proofs.YtogadldnkhdjbaaDoor.Blk Go.Proofs.YtogadldnkhdjbaaDoor.CycM Go.Proofs.YtogadldnkhdjbaaDoor.Cong
set_option linter.unusedVariables false

/-! ### Plain -/
def thF (m f1 f2 : Nat) : Nat := f1 * f2 % m
def thA (m a1 f2 a2 : Nat) : Nat := (f2 * a1 + a2) % m
theorem step_then (m f1 a1 f2 a2 x : Nat) : stepN m (thF m f1 f2) (thA m a1 f2 a2) x = stepN m f2 a2 (stepN m f1 a1 x) := by
  unfold stepN thF thA
  rw [Nat.add_mod, Nat.mul_mod, Nat.mod_mod, Nat.mod_mod, ← Nat.mul_mod, ← Nat.add_mod]
  conv => rhs; rw [Nat.add_mod, Nat.mul_mod, Nat.mod_mod, ← Nat.mul_mod, ← Nat.add_mod]
  congr 1
  grind
theorem iter_two {T U : Nat → Nat} {m : Nat} (hT : ∀ s, s < m → T s < m) (hU : ∀ s, s < m → U s = T (T s)) {x : Nat} (hx : x < m) : ∀ q, iter U x q = iter T x (2 * q)
  | 0 => rfl
  | q + 1 => by
    rw [iter_succ, iter_two hT hU hx q, hU _ (iter_lt hT hx _), show 2 * (q + 1) = 2 * q + 1 + 1 by omega, iter_succ, iter_succ]
/-- (F, A) stands for n steps -/
def PowOf (m f a n F A : Nat) : Prop := F < m ∧ A < m ∧ ∀ x, x < m → stepN m F A x = iter (stepN m f a) x n
structure PInv (m f a n k Fo Ao Fc Ac : Nat) : Prop where
  h1 : Fo < m
  h2 : Ao < m
  h3 : Fc < m
  h4 : Ac < m
  is : ∀ x, x < m → iter (stepN m Fc Ac) (stepN m Fo Ao x) k = iter (stepN m f a) x n
theorem PInv.start {m f a n : Nat} (hm : 2 ≤ m) (hf : f < m) (ha : a < m) : PInv m f a n n 1 0 f a :=
  ⟨by omega, by omega, hf, ha, fun x hx => by rw [show stepN m 1 0 x = x by simp [stepN, Nat.mod_eq_of_lt hx]]⟩
theorem PInv.odd {m f a n q Fo Ao Fc Ac : Nat} (h : PInv m f a n (2 * q + 1) Fo Ao Fc Ac) : PInv m f a n q (thF m Fo Fc) (thA m Ao Fc Ac) (thF m Fc Fc) (thA m Ac Fc Ac) := by
  have h0 : 0 < m := by have := h.h1; omega
  have hT : ∀ s, s < m → stepN m Fc Ac s < m := fun s _ => Nat.mod_lt _ h0
  refine ⟨Nat.mod_lt _ h0, Nat.mod_lt _ h0, Nat.mod_lt _ h0, Nat.mod_lt _ h0, fun x hx => ?_⟩
  rw [step_then, ← h.is x hx, iter_two hT (fun s _ => step_then m Fc Ac Fc Ac s) (hT _ (stepN_lt h0 x)), show 2 * q + 1 = 1 + 2 * q by omega, iter_add]
  rfl
theorem PInv.even {m f a n q Fo Ao Fc Ac : Nat} (h : PInv m f a n (2 * q) Fo Ao Fc Ac) : PInv m f a n q Fo Ao (thF m Fc Fc) (thA m Ac Fc Ac) := by
  have h0 : 0 < m := by have := h.h1; omega
  have hT : ∀ s, s < m → stepN m Fc Ac s < m := fun s _ => Nat.mod_lt _ h0
  refine ⟨h.h1, h.h2, Nat.mod_lt _ h0, Nat.mod_lt _ h0, fun x hx => ?_⟩
  rw [← h.is x hx, iter_two hT (fun s _ => step_then m Fc Ac Fc Ac s) (stepN_lt h0 x)]
theorem PInv.done {m f a n Fo Ao Fc Ac : Nat} (h : PInv m f a n 0 Fo Ao Fc Ac) : PowOf m f a n Fo Ao := ⟨h.h1, h.h2, h.is⟩
theorem thF_int (m f1 f2 : Nat) : ((f1 : Int) * (f2 : Int)) % (m : Int) = ((thF m f1 f2 : Nat) : Int) := by unfold thF; simp
theorem thA_int (m a1 f2 a2 : Nat) : ((f2 : Int) * (a1 : Int) + (a2 : Int)) % (m : Int) = ((thA m a1 f2 a2 : Nat) : Int) := by unfold thA; simp

/-! ### The reference -/
def CV (m f a : Nat) : Value := .agg #[.int .i64 (m : Int), .int .i64 (f : Int), .int .i64 (a : Int)]
set_option maxHeartbeats 1000000 in
set_option maxRecDepth 100000 in
theorem implThen_any (m f1 a1 f2 a2 : Nat) (w : World) (hm : 2 ≤ m) (hm2 : m ≤ 100000) (hf1 : f1 < m) (ha1 : a1 < m) (hf2 : f2 < m) (ha2 : a2 < m) :
    Calls Tryd.prog 91 #[.agg #[.int .i64 ((m : Nat) : Int), .int .i64 ((f1 : Nat) : Int), .int .i64 ((a1 : Nat) : Int)], .agg #[.int .i64 ((m : Nat) : Int), .int .i64 ((f2 : Nat) : Int), .int .i64 ((a2 : Nat) : Int)]] w fun e w' => e = .returned (.agg #[.int .i64 ((m : Nat) : Int), .int .i64 ((thF m f1 f2 : Nat) : Int), .int .i64 ((thA m a1 f2 a2 : Nat) : Int)]) ∧ Below w.heap.size w w' := by
  obtain ⟨p1, p2⟩ := prod_le hf1 hf2 hm2
  have hm0 : ((m : Int) == 0) = false := by simp; omega
  obtain ⟨W3, hW3⟩ : ∃ W3, W3 = ((w.alloc (.cells #[.int .i64 ((m : Nat) : Int), .int .i64 ((f1 : Nat) : Int), .int .i64 ((a1 : Nat) : Int)] 38)).alloc (.cells #[.int .i64 ((m : Nat) : Int), .int .i64 ((f2 : Nat) : Int), .int .i64 ((a2 : Nat) : Int)] 38)).alloc (.cells #[.int .i64 0, .int .i64 0, .int .i64 0] 38) := ⟨_, rfl⟩
  have B3 : Below w.heap.size w W3 := by rw [hW3]; exact (((Below.refl _ _).alloc (Nat.le_refl _) _).alloc (by simp) _).alloc (by simp; omega) _
  have k0 : Blk W3 w.heap.size 38 #[.int .i64 ((m : Nat) : Int), .int .i64 ((f1 : Nat) : Int), .int .i64 ((a1 : Nat) : Int)] := by rw [hW3]; exact ((Blk.new _ _ _).alloc _).alloc _
  have k1 : Blk W3 (w.heap.size + 1) 38 #[.int .i64 ((m : Nat) : Int), .int .i64 ((f2 : Nat) : Int), .int .i64 ((a2 : Nat) : Int)] := by rw [hW3]; exact (Blk.newAt _ _ (by simp)).alloc _
  have k2 : Blk W3 (w.heap.size + 1 + 1) 38 #[.int .i64 0, .int .i64 0, .int .i64 0] := by rw [hW3]; exact Blk.newAt _ _ (by simp)
  have HS : Hid (∀ w, Calls Tryd.prog 64 #[.agg #[.int .i64 ((m : Nat) : Int), .int .i64 ((f2 : Nat) : Int), .int .i64 ((a2 : Nat) : Int)], .int .i64 (a1 : Int)] w fun e w' => e = .returned (.int .i64 (thA m a1 f2 a2 : Nat)) ∧ Below w.heap.size w w') := Lib.hid fun w => congStep_any m f2 a2 a1 w hm hm2 hf2 ha2 ha1
  have HW := Lib.hid hW3
  have HB := Lib.hid B3
  have K0 := Lib.hid k0
  have K1 := Lib.hid k1
  have K2 := Lib.hid k2
  have HF := Lib.hid (thF_int m f1 f2)
  clear hW3 B3 k0 k1 k2
  generalize thF m f1 f2 = F at *
  generalize thA m a1 f2 a2 = A at *
  go_enter Tryd.func91, Tryd.ntmps91
  go_wp2_with fail
  rw [← HW.out]
  (refine Tail.wp_region_below_tail 15 (by kernel_rfl) (by kernel_rfl) ?_; simp only [List.take_succ_cons, List.take_zero, List.drop_succ_cons, List.drop_zero]; (repeat (first | go_big_quiet_skip | (go_big_quiet_want; go_big_quiet_op; first | go_big_quiet_on | (refine ⟨_, fun _ _ => rfl, ?_⟩; go_big_quiet_on) | (apply Exists.intro; refine ⟨fun wq hq => ?_, ?_⟩; (have x0 := (K0.out.belowS hq).at 0 (v := .int .i64 (m : Int)) rfl; have x1 := (K0.out.belowS hq).at 1 (v := .int .i64 (f1 : Int)) rfl; have x2 := (K0.out.belowS hq).at 2 (v := .int .i64 (a1 : Int)) rfl; have y0 := (K1.out.belowS hq).at 0 (v := .int .i64 (m : Int)) rfl; have y1 := (K1.out.belowS hq).at 1 (v := .int .i64 (f2 : Int)) rfl; have y2 := (K1.out.belowS hq).at 2 (v := .int .i64 (a2 : Int)) rfl; first | (go_simp; done) | (go_simp; rfl) | (go_at_call 64; refine (HS.out _).mono ?_; rintro e w1 ⟨rfl, hb1⟩; exact ⟨rfl, Base.Below.nextA hq hb1⟩)); go_big_quiet_on)))); refine wpQuiet_nil ?_; intro wq hq)
  have K2q := K2.out.belowS hq
  have g0 := K2q.frz 0
  have g1 := K2q.frz 1
  have g2 := K2q.frz 2
  have e0 := K2q.at 0 (v := .int .i64 0) rfl
  have e1 := K2q.at 1 (v := .int .i64 0) rfl
  have e2 := K2q.at 2 (v := .int .i64 0) rfl
  have HQ := Lib.hid (HB.out.trans (hq.mono HB.out.size))
  have KQ := Lib.hid K2q
  clear hq K2q
  go_wp2
  rw [HF.out]
  have S := ((KQ.out.setTo 0 (.int .i64 (m : Int)) rfl).setTo 1 (.int .i64 (F : Int)) rfl).setTo 2 (.int .i64 (A : Int)) rfl
  have q0 := S.at 0 rfl
  have q1 := S.at 1 rfl
  have q2 := S.at 2 rfl
  refine bodyPost_ret (v := .agg #[.int .i64 ((m : Nat) : Int), .int .i64 ((F : Nat) : Int), .int .i64 ((A : Nat) : Int)]) (by simp [results, Tryd.results91, go_sem, q0, q1, q2]) rfl ⟨rfl, ?_⟩
  exact ((HQ.out.setCell (by simp; omega) _).setCell (by simp; omega) _).setCell (by simp; omega) _
/-- the congruence of n steps, told by its values at 0 and at 1 -/
def powA (m f a n : Nat) : Nat := iter (stepN m f a) 0 n
def powF (m f a n : Nat) : Nat := (iter (stepN m f a) 1 n + m - iter (stepN m f a) 0 n) % m
theorem PowOf.eq {m f a n F A : Nat} (hm : 2 ≤ m) (h : PowOf m f a n F A) : F = powF m f a n ∧ A = powA m f a n := by
  obtain ⟨h1, h2, h3⟩ := h
  have e0 := h3 0 (by omega)
  have e1 := h3 1 (by omega)
  unfold powF powA
  rw [← e0, ← e1]
  simp only [stepN, Nat.mul_zero, Nat.zero_add, Nat.mul_one, Nat.mod_eq_of_lt h2, and_true]
  by_cases hlt : F + A < m
  · rw [Nat.mod_eq_of_lt hlt, show F + A + m - A = F + m by omega, Nat.add_mod_right, Nat.mod_eq_of_lt h1]
  · have e3 : (F + A) % m = F + A - m := by rw [Nat.mod_eq_sub_mod (by omega), Nat.mod_eq_of_lt (by omega)]
    rw [e3, show F + A - m + m - A = F by omega, Nat.mod_eq_of_lt h1]
theorem PowOf.zero {m f a : Nat} (hm : 2 ≤ m) : PowOf m f a 0 1 0 := ⟨by omega, by omega, fun x hx => by simp [stepN, iter, Nat.mod_eq_of_lt hx]⟩
theorem PowOf.succ {m f a n F A : Nat} (hm : 2 ≤ m) (h : PowOf m f a n F A) : PowOf m f a (n + 1) (thF m F f) (thA m A f a) :=
  ⟨Nat.mod_lt _ (by omega), Nat.mod_lt _ (by omega), fun x hx => by rw [step_then, h.2.2 x hx]; rfl⟩
theorem powOf {m f a : Nat} (hm : 2 ≤ m) : ∀ n, PowOf m f a n (powF m f a n) (powA m f a n)
  | 0 => by
    have h := PowOf.zero (f := f) (a := a) hm
    obtain ⟨e1, e2⟩ := h.eq hm
    rw [← e1, ← e2]; exact h
  | n + 1 => by
    have h := (powOf (f := f) (a := a) hm n).succ hm
    obtain ⟨e1, e2⟩ := h.eq hm
    rw [← e1, ← e2]; exact h
/-- what a power hands back -/
def PowRet (m f a n : Nat) (w : World) (e : Ending) (w' : World) : Prop := e = .returned (.agg #[.int .i64 ((m : Nat) : Int), .int .i64 ((powF m f a n : Nat) : Int), .int .i64 ((powA m f a n : Nat) : Int)]) ∧ Below w.heap.size w w'
theorem PowRet.of {m f a n F A : Nat} {w w' : World} {e : Ending} (hm : 2 ≤ m) (h : PowOf m f a n F A) (he : e = .returned (.agg #[.int .i64 ((m : Nat) : Int), .int .i64 ((F : Nat) : Int), .int .i64 ((A : Nat) : Int)])) (hb : Below w.heap.size w w') : PowRet m f a n w e w' := by
  obtain ⟨e1, e2⟩ := h.eq hm
  subst e1 e2
  exact ⟨he, hb⟩
/-- the loop's relation: the count that is left, two boxes -/
def PRel (m f a n r p q : Nat) (w : World) (nv : Value) (wr : World) : Prop :=
  ∃ k Fo Ao Fc Ac : Nat, k ≤ n ∧ nv = .int .i64 (k : Int) ∧ PInv m f a n k Fo Ao Fc Ac ∧ Blk wr r 38 #[.int .i64 0, .int .i64 0, .int .i64 0] ∧
    Blk wr p 38 #[.int .i64 ((m : Nat) : Int), .int .i64 ((Fo : Nat) : Int), .int .i64 ((Ao : Nat) : Int)] ∧ Blk wr q 38 #[.int .i64 ((m : Nat) : Int), .int .i64 ((Fc : Nat) : Int), .int .i64 ((Ac : Nat) : Int)] ∧ Below w.heap.size w wr
set_option maxHeartbeats 1000000 in
set_option maxRecDepth 100000 in
theorem implPower_any (m f a n : Nat) (w : World) (hm : 2 ≤ m) (hm2 : m ≤ 100000) (hf : f < m) (ha : a < m) (hn : n ≤ 1000000000000000000) :
    Calls Tryd.prog 67 #[.agg #[.int .i64 ((m : Nat) : Int), .int .i64 ((f : Nat) : Int), .int .i64 ((a : Nat) : Int)], .int .i64 (n : Int)] w (PowRet m f a n w) := by
  have HI := Lib.hid (PInv.start (n := n) hm hf ha)
  have hm0 : ((m : Int) == 0) = false := by simp; omega
  have h1m : (1 : Int) % (m : Int) = 1 := Int.emod_eq_of_lt (by omega) (by omega)
  go_enter Tryd.func67, Tryd.ntmps67
  go_wp2
  go_region
  all_goals
    go_wp2
    clear h1m
    go_loopw [1] (fun nv wr => PRel m f a n (w.heap.size + 1) (w.heap.size + 1 + 1) w.heap.size w nv wr) (fun nv _ => (intOf nv).toNat)
  case atStart =>
    have B3 := ((((Below.refl w.heap.size w).alloc (Nat.le_refl _) (.cells #[.int .i64 ((m : Nat) : Int), .int .i64 ((f : Nat) : Int), .int .i64 ((a : Nat) : Int)] 38)).alloc (by simp) (.cells #[.int .i64 0, .int .i64 0, .int .i64 0] 38)).alloc (by simp; omega) (.cells #[.int .i64 ((m : Nat) : Int), .int .i64 ((1 : Nat) : Int), .int .i64 ((0 : Nat) : Int)] 38)).drew
    exact ⟨n, 1, 0, f, a, Nat.le_refl _, rfl, HI.out, ((Blk.newAt _ _ (by simp)).alloc _).drew, (Blk.newAt _ _ (by simp)).drew, (((Blk.new _ _ _).alloc _).alloc _).drew, B3⟩
  case round =>
    obtain ⟨k, Fo, Ao, Fc, Ac, hk, rfl, hP, k0, kp, kq, hbel⟩ := hrel
    have K0 := Lib.hid k0
    have KP := Lib.hid kp
    have KQ := Lib.hid kq
    have HB := Lib.hid hbel
    have hlp := kp.lt
    have hP' := Lib.hid hP
    obtain ⟨b1, b2, b3, b4, _⟩ := hP
    have hz := hbel.size
    clear hbel k0
    have p0 := kp.at 0 (v := .int .i64 (m : Int)) rfl
    have p1 := kp.at 1 (v := .int .i64 (Fo : Int)) rfl
    have p2 := kp.at 2 (v := .int .i64 (Ao : Int)) rfl
    by_cases hk0 : k = 0
    · subst hk0
      have r0 := K0.out.at 0 (v := .int .i64 0) rfl
      have r1 := K0.out.at 1 (v := .int .i64 0) rfl
      have r2 := K0.out.at 2 (v := .int .i64 0) rfl
      have f0 := K0.out.frz 0
      have f1 := K0.out.frz 1
      have f2 := K0.out.frz 2
      clear kp kq
      go_wp2
      have S := K0.out.set3 (.int .i64 (m : Int)) (.int .i64 (Fo : Int)) (.int .i64 (Ao : Int))
      have q0 := S.at 0 rfl
      have q1 := S.at 1 rfl
      have q2 := S.at 2 rfl
      simp only [put3] at q0 q1 q2
      refine bodyPost_ret (v := .agg #[.int .i64 ((m : Nat) : Int), .int .i64 ((Fo : Nat) : Int), .int .i64 ((Ao : Nat) : Int)]) (by simp [results, Tryd.results67, go_sem, q0, q1, q2]) rfl (PowRet.of hm hP'.out.done rfl ?_)
      exact below_put3 HB.out (by simp) _ _ _
    · have c0 := kq.at 0 (v := .int .i64 (m : Int)) rfl
      have c1 := kq.at 1 (v := .int .i64 (Fc : Int)) rfl
      have c2 := kq.at 2 (v := .int .i64 (Ac : Int)) rfl
      clear kp kq
      by_cases hodd : k % 2 = 1
      · obtain ⟨q, rfl⟩ : ∃ q, k = 2 * q + 1 := ⟨k / 2, by omega⟩
        have HC := Lib.hid (implThen_any m Fo Ao Fc Ac wr hm hm2 b1 b2 b3 b4)
        have HN := Lib.hid hP'.out.odd
        go_wp2_with fail
        refine HC.out.mono ?_
        rintro e w1 ⟨rfl, hb1⟩
        clear p0 p1 p2 c0 c1 c2
        have s0 := KP.out.belowS hb1
        have t0 := KQ.out.belowS hb1
        have n0 := Lib.hid (K0.out.belowS hb1)
        have hb1' := Lib.hid (HB.out.trans (hb1.mono hz))
        obtain ⟨w2, hw2⟩ : ∃ w2, w2 = put3 w1 (w.heap.size + 1 + 1) (.int .i64 (m : Int)) (.int .i64 (thF m Fo Fc : Nat)) (.int .i64 (thA m Ao Fc Ac : Nat)) := ⟨_, rfl⟩
        have S2 : Blk w2 (w.heap.size + 1 + 1) 38 _ := hw2 ▸ s0.set3 _ _ _
        have T2 : Blk w2 w.heap.size 38 _ := hw2 ▸ t0.oth3 _ _ _ (by omega)
        have N2 := Lib.hid (show Blk w2 (w.heap.size + 1) 38 _ from hw2 ▸ n0.out.oth3 _ _ _ (by omega))
        have B2 := Lib.hid (show Below w.heap.size w w2 from hw2 ▸ below_put3 hb1'.out (by omega) _ _ _)
        have HS2 := Lib.hid S2
        have HT2 := Lib.hid T2
        unfold put3 at hw2
        have HW2 := Lib.hid hw2
        have f0 := s0.frz 0
        have f1 := s0.frz 1
        have f2 := s0.frz 2
        have u0 := s0.at 0 (v := .int .i64 (m : Int)) rfl
        have u1 := s0.at 1 (v := .int .i64 (Fo : Int)) rfl
        have u2 := s0.at 2 (v := .int .i64 (Ao : Int)) rfl
        have c0 := t0.at 0 (v := .int .i64 (m : Int)) rfl
        have c1 := t0.at 1 (v := .int .i64 (Fc : Int)) rfl
        have c2 := t0.at 2 (v := .int .i64 (Ac : Int)) rfl
        have HC2 := Lib.hid (implThen_any m Fc Ac Fc Ac w2 hm hm2 b3 b4 b3 b4)
        clear S2 T2 hw2 s0 t0 hb1
        generalize thF m Fo Fc = Fo2 at *
        generalize thA m Ao Fc Ac = Ao2 at *
        generalize thF m Fc Fc = Fc2 at *
        generalize thA m Ac Fc Ac = Ac2 at *
        go_wp2_with fail
        rw [← HW2.out]
        refine HC2.out.mono ?_
        rintro e w3 ⟨rfl, hb3⟩
        clear c0 c1 c2 u0 u1 u2 f0 f1 f2
        have s3 := HS2.out.belowS hb3
        have t3 := HT2.out.belowS hb3
        have g0 := t3.frz 0
        have g1 := t3.frz 1
        have g2 := t3.frz 2
        have v0 := t3.at 0 (v := .int .i64 (m : Int)) rfl
        have v1 := t3.at 1 (v := .int .i64 (Fc : Int)) rfl
        have v2 := t3.at 2 (v := .int .i64 (Ac : Int)) rfl
        have HS3 := Lib.hid s3
        have HT3 := Lib.hid t3
        have HN3 := Lib.hid (N2.out.belowS hb3)
        have HB3 := Lib.hid (B2.out.trans (hb3.mono B2.out.size))
        clear s3 t3 hb3
        go_wp2
        go_roundw
        case rel => exact ⟨q, Fo2, Ao2, Fc2, Ac2, by omega, by go_num, HN.out, HN3.out.oth3 _ _ _ (by omega), HS3.out.oth3 _ _ _ (by omega), HT3.out.set3 _ _ _, below_put3 HB3.out (by omega) _ _ _⟩
        case measure => simp [intOf]; omega
      · obtain ⟨q, rfl⟩ : ∃ q, k = 2 * q := ⟨k / 2, by omega⟩
        have HC2 := Lib.hid (implThen_any m Fc Ac Fc Ac wr hm hm2 b3 b4 b3 b4)
        have HN := Lib.hid hP'.out.even
        generalize thF m Fc Fc = Fc2 at *
        generalize thA m Ac Fc Ac = Ac2 at *
        go_wp2_with fail
        refine HC2.out.mono ?_
        rintro e w3 ⟨rfl, hb3⟩
        clear p0 p1 p2 c0 c1 c2
        have s3 := KP.out.belowS hb3
        have t3 := KQ.out.belowS hb3
        have g0 := t3.frz 0
        have g1 := t3.frz 1
        have g2 := t3.frz 2
        have v0 := t3.at 0 (v := .int .i64 (m : Int)) rfl
        have v1 := t3.at 1 (v := .int .i64 (Fc : Int)) rfl
        have v2 := t3.at 2 (v := .int .i64 (Ac : Int)) rfl
        have HS3 := Lib.hid s3
        have HT3 := Lib.hid t3
        have HN3 := Lib.hid (K0.out.belowS hb3)
        have HB3 := Lib.hid (HB.out.trans (hb3.mono hz))
        clear s3 t3 hb3
        go_wp2
        go_roundw
        case rel => exact ⟨q, Fo, Ao, Fc2, Ac2, by omega, by go_num, HN.out, HN3.out.oth3 _ _ _ (by omega), HS3.out.oth3 _ _ _ (by omega), HT3.out.set3 _ _ _, below_put3 HB3.out (by omega) _ _ _⟩
        case measure => simp [intOf]; omega
end Go.Proofs.YtogadldnkhdjbaaDoor.Pow
/- The stream after many steps: l11Skip, skip, SkipStream; the law. -/
namespace Go.Proofs.YtogadldnkhdjbaaDoor.Skip
open Go.RowKit Go.Proofs.YtogadldnkhdjbaaDoor Go.Proofs.YtogadldnkhdjbaaDoor.Base Go.Proofs.YtogadldnkhdjbaaDoor.Mem Go.Proofs.YtogadldnkhdjbaaDoor.Reg Go.Proofs.YtogadldnkhdjbaaDoor.Str Go.Proofs.YtogadldnkhdjbaaDoor.Take Go.Proofs.YtogadldnkhdjbaaDoor.Blk Go.Proofs.YtogadldnkhdjbaaDoor.Pow
set_option linter.unusedVariables false
theorem natsN {K W T m f a s c : Int} (hB : streamB K W T m f a s = true) (hc : 0 ≤ c ∧ c ≤ 1000000000000000000) : ∃ X N : Nat, s = X ∧ c = N ∧ N ≤ 1000000000000000000 ∧
    ((K = 0 ∧ ∃ V A : Nat, W = V ∧ T = A ∧ V ≤ 16 ∧ A < 2 ^ V ∧ X < 2 ^ V) ∨ (K = 1 ∧ ∃ M F A : Nat, m = M ∧ f = F ∧ a = A ∧ 2 ≤ M ∧ M ≤ 100000 ∧ F < M ∧ A < M ∧ X < M)) := by
  rcases streamB_true hB with ⟨rfl, hR⟩ | ⟨rfl, hC⟩
  · obtain ⟨h1, h2, h3, h4, h5, h6⟩ := Reg.bothR_true hR
    have ep : ((2 ^ W.toNat : Nat) : Int) = (2 : Int) ^ W.toNat := by simp
    exact ⟨s.toNat, c.toNat, by omega, by omega, by omega, .inl ⟨rfl, W.toNat, T.toNat, by omega, by omega, by omega, by omega, by omega⟩⟩
  · obtain ⟨h1, h2, h3, h4, h5, h6, h7', h8⟩ := Cong.bothB_true hC
    exact ⟨s.toNat, c.toNat, by omega, by omega, by omega, .inr ⟨rfl, m.toNat, f.toNat, a.toNat, by omega, by omega, by omega, by omega, by omega, by omega, by omega, by omega⟩⟩
def SkipR (K W T m f a s c : Int) (w : World) (e : Ending) (w' : World) : Prop := e = .returned (.agg #[.int .i64 K, .int .i64 W, .int .i64 T, .int .i64 m, .int .i64 f, .int .i64 a, .int .i64 (takeX K W T m f a s c)]) ∧ Below w.heap.size w w'
def SkR (K W T m f a y : Int) (w : World) (e : Ending) (w' : World) : Prop := e = .returned (.agg #[.int .i64 K, .int .i64 W, .int .i64 T, .int .i64 m, .int .i64 f, .int .i64 a, .int .i64 y]) ∧ Below w.heap.size w w'
/-- the world of a stream's box and a result's box -/
theorem two (w : World) (K W T m f a s : Int) : ∃ W1, W1 = (w.alloc (.cells #[.int .i64 K, .int .i64 W, .int .i64 T, .int .i64 m, .int .i64 f, .int .i64 a, .int .i64 s] 40)).alloc (.cells #[.int .i64 0, .int .i64 0, .int .i64 0, .int .i64 0, .int .i64 0, .int .i64 0, .int .i64 0] 40) ∧ SBox W1 w.heap.size K W T m f a s ∧ SBox W1 (w.heap.size + 1) 0 0 0 0 0 0 0 ∧ Below w.heap.size w W1 := by
  refine ⟨_, rfl, ?_, ?_, ((Below.refl _ _).alloc (Nat.le_refl _) _).alloc (by simp) _⟩
  · exact (SBox.new w K W T m f a s).below ((Below.refl (w.heap.size + 1) _).alloc (by simp) (.cells #[.int .i64 0, .int .i64 0, .int .i64 0, .int .i64 0, .int .i64 0, .int .i64 0, .int .i64 0] 40)) (Nat.lt_succ_self _)
  · have := SBox.new (w.alloc (.cells #[.int .i64 K, .int .i64 W, .int .i64 T, .int .i64 m, .int .i64 f, .int .i64 a, .int .i64 s] 40)) 0 0 0 0 0 0 0
    rw [World.size_alloc] at this
    exact this
theorem below_set7 {B b : Nat} {w0 w : World} (h : Below B w0 w) (hB : B ≤ b) (hs : B ≤ w.heap.size) (K W T m f a s : Int) : Below B w0 (set7 w b K W T m f a s) :=
  h.trans (grown_below (grown_set7 w b K W T m f a s) (fun g e => by cases e; exact hB) hs)
theorem SBox.other {w : World} {b : Nat} {K W T m f a s : Int} (h : SBox w b K W T m f a s) {p : Addr} (v : Value) (hne : p.block ≠ b) : SBox (w.setCell p v) b K W T m f a s := h.kept (Src.grown_setCell w p v) fun e => hne (Option.some.inj e)
set_option maxHeartbeats 1000000 in
set_option maxRecDepth 100000 in
theorem implSkip_reg (W T x n m f a y : Int) (w : World) (HJ : Hid (∀ w, Calls Tryd.prog 66 #[.agg #[.int .i64 W, .int .i64 T], .int .i64 x, .int .i64 n] w fun e w' => e = .returned (.int .i64 y) ∧ Below w.heap.size w w')) :
    Calls Tryd.prog 41 #[.agg #[.int .i64 0, .int .i64 W, .int .i64 T, .int .i64 m, .int .i64 f, .int .i64 a, .int .i64 x], .int .i64 n] w (SkR 0 W T m f a y w) := by
  obtain ⟨W1, hW1, S, R, B⟩ := two w 0 W T m f a x
  have HW := Lib.hid hW1
  have HS := Lib.hid S
  have HR := Lib.hid R
  have HB := Lib.hid B
  clear hW1 S R B
  go_enter Tryd.func41, Tryd.ntmps41
  go_wp2_with fail
  rw [← HW.out]
  refine (HJ.out _).mono ?_
  rintro e w1 ⟨rfl, hb1⟩
  have t0 := HS.out.below hb1 HS.out.lt
  have r0 := HR.out.below hb1 HR.out.lt
  have c0 := (t0).c0; have c1 := (t0).c1; have c2 := (t0).c2; have c3 := (t0).c3; have c4 := (t0).c4; have c5 := (t0).c5; have c6 := (t0).c6
  have d0 := (r0).c0; have d1 := (r0).c1; have d2 := (r0).c2; have d3 := (r0).c3; have d4 := (r0).c4; have d5 := (r0).c5; have d6 := (r0).c6
  have g0 := (r0).frz 0; have g1 := (r0).frz 1; have g2 := (r0).frz 2; have g3 := (r0).frz 3; have g4 := (r0).frz 4; have g5 := (r0).frz 5; have g6 := (r0).frz 6
  have f6 := t0.frz 6
  have B1 := HB.out.trans (hb1.mono HB.out.size)
  have t1 := t0.set6 y
  have r1 := SBox.other r0 (p := ⟨w.heap.size, 6, none⟩) (.int .i64 y) (by simp)
  have S8 := r1.set7 0 W T m f a y
  have p0 := (S8).c0; have p1 := (S8).c1; have p2 := (S8).c2; have p3 := (S8).c3; have p4 := (S8).c4; have p5 := (S8).c5; have p6 := (S8).c6
  simp only [set7] at p0 p1 p2 p3 p4 p5 p6
  have hz1 := r0.lt
  have HB2 := Lib.hid (below_set7 (b := w.heap.size + 1) (B1.setCell (p := ⟨w.heap.size, 6, none⟩) (Nat.le_refl _) (.int .i64 y)) (Nat.le_succ _) (by simp; omega) 0 W T m f a y)
  clear S8 r1 t1 t0 r0 B1 hb1
  go_wp2
  exact bodyPost_ret (v := .agg #[.int .i64 0, .int .i64 W, .int .i64 T, .int .i64 m, .int .i64 f, .int .i64 a, .int .i64 y]) (by simp [results, Tryd.results41, go_sem, p0, p1, p2, p3, p4, p5, p6]) rfl ⟨rfl, HB2.out⟩
set_option maxHeartbeats 1000000 in
set_option maxRecDepth 100000 in
theorem implSkip_con (m f a x n : Nat) (W T : Int) {y : Int} (w : World) (hm : 2 ≤ m) (hm2 : m ≤ 100000) (hf : f < m) (ha : a < m) (hx : x < m) (hn : n ≤ 1000000000000000000) (hy : ((CycM.iter (Cong.stepN m f a) x n : Nat) : Int) = y) :
    Calls Tryd.prog 41 #[.agg #[.int .i64 1, .int .i64 W, .int .i64 T, .int .i64 m, .int .i64 f, .int .i64 a, .int .i64 x], .int .i64 n] w (SkR 1 W T m f a y w) := by
  obtain ⟨W1, hW1, S, R, B⟩ := two w 1 W T m f a x
  have hp := powOf (f := f) (a := a) hm n
  have hy2 : ((Cong.stepN m (powF m f a n) (powA m f a n) x : Nat) : Int) = y := by rw [hp.2.2 x hx]; exact hy
  have HC := Lib.hid (fun w => implPower_any m f a n w hm hm2 hf ha hn)
  have HC2 := Lib.hid (fun w => Cong.congStep_any m (powF m f a n) (powA m f a n) x w hm hm2 hp.1 hp.2.1 hx)
  rw [hy2] at HC2
  have HW := Lib.hid hW1
  have HS := Lib.hid S
  have HR := Lib.hid R
  have HB := Lib.hid B
  unfold PowRet at HC
  clear hp
  generalize powF m f a n = F at *
  generalize powA m f a n = A at *
  clear hW1 S R B hy hy2
  go_enter Tryd.func41, Tryd.ntmps41
  go_wp2_with fail
  rw [← HW.out]
  (refine Tail.wp_region_below_tail 8 (by kernel_rfl) (by kernel_rfl) ?_; simp only [List.take_succ_cons, List.take_zero, List.drop_succ_cons, List.drop_zero]; (repeat (first | go_big_quiet_skip | (go_big_quiet_want; go_big_quiet_op; first | go_big_quiet_on | (refine ⟨_, fun _ _ => rfl, ?_⟩; go_big_quiet_on) | (apply Exists.intro; refine ⟨fun wq hq => ?_, ?_⟩; (have c3 := (HS.out.below hq HS.out.lt).c3; have c4 := (HS.out.below hq HS.out.lt).c4; have c5 := (HS.out.below hq HS.out.lt).c5; have c6 := (HS.out.below hq HS.out.lt).c6; first | (go_simp; done) | (go_simp; rfl) | (first | (go_at_call 67; refine (HC.out _).mono ?_; rintro e w1 ⟨rfl, hb1⟩; exact ⟨rfl, Base.Below.nextA hq hb1⟩) | (go_at_call 64; refine (HC2.out _).mono ?_; rintro e w1 ⟨rfl, hb1⟩; exact ⟨rfl, Base.Below.nextA hq hb1⟩))); go_big_quiet_on)))); refine wpQuiet_nil ?_; intro wq hq)
  have t2 := HS.out.below hq HS.out.lt
  have r2 := HR.out.below hq HR.out.lt
  have B2 := HB.out.trans (hq.mono HB.out.size)
  have c0 := (t2).c0; have c1 := (t2).c1; have c2 := (t2).c2; have c3 := (t2).c3; have c4 := (t2).c4; have c5 := (t2).c5; have c6 := (t2).c6
  have d0 := (r2).c0; have d1 := (r2).c1; have d2 := (r2).c2; have d3 := (r2).c3; have d4 := (r2).c4; have d5 := (r2).c5; have d6 := (r2).c6
  have g0 := (r2).frz 0; have g1 := (r2).frz 1; have g2 := (r2).frz 2; have g3 := (r2).frz 3; have g4 := (r2).frz 4; have g5 := (r2).frz 5; have g6 := (r2).frz 6
  have f6 := t2.frz 6
  have r3 := SBox.other r2 (p := ⟨w.heap.size, 6, none⟩) (.int .i64 y) (by simp)
  have S8 := r3.set7 1 W T m f a y
  have p0 := (S8).c0; have p1 := (S8).c1; have p2 := (S8).c2; have p3 := (S8).c3; have p4 := (S8).c4; have p5 := (S8).c5; have p6 := (S8).c6
  simp only [set7] at p0 p1 p2 p3 p4 p5 p6
  have hz2 := r2.lt
  have HB2 := Lib.hid (below_set7 (b := w.heap.size + 1) (B2.setCell (p := ⟨w.heap.size, 6, none⟩) (Nat.le_refl _) (.int .i64 y)) (Nat.le_succ _) (by simp; omega) 1 W T m f a y)
  clear S8 r3 r2 t2 B2 hq
  go_wp2
  exact bodyPost_ret (v := .agg #[.int .i64 1, .int .i64 W, .int .i64 T, .int .i64 m, .int .i64 f, .int .i64 a, .int .i64 y]) (by simp [results, Tryd.results41, go_sem, p0, p1, p2, p3, p4, p5, p6]) rfl ⟨rfl, HB2.out⟩
theorem takeX_r (V A X N : Nat) (m f a : Int) : takeX 0 V A m f a X N = ((CycM.iter (nextR V A) X N : Nat) : Int) := by simp [takeX]
theorem takeX_c (M F A X N : Nat) (W T : Int) : takeX 1 W T M F A X N = ((CycM.iter (Cong.stepN M F A) X N : Nat) : Int) := by simp [takeX]
theorem implSkip_yes {K W T m f a s c : Int} (hB : streamB K W T m f a s = true) (hc : 0 ≤ c ∧ c ≤ 1000000000000000000) (w : World) : Calls Tryd.prog 41 #[.agg #[.int .i64 K, .int .i64 W, .int .i64 T, .int .i64 m, .int .i64 f, .int .i64 a, .int .i64 s], .int .i64 c] w (SkipR K W T m f a s c w) := by
  obtain ⟨X, N, rfl, rfl, hN, ⟨rfl, V, A, rfl, rfl, hV, hA, hX⟩ | ⟨rfl, M, F, A, rfl, rfl, rfl, h1, h2, h3, h4, h5⟩⟩ := natsN hB hc
  · exact implSkip_reg V A X N m f a _ w (Lib.hid fun w => by rw [takeX_r]; exact Jump.jumpR_any V A X N w hV hA hX hN)
  · exact implSkip_con M F A X N W T w h1 h2 h3 h4 h5 hN (takeX_c M F A X N W T).symm
end Go.Proofs.YtogadldnkhdjbaaDoor.Skip

/- A region that draws its order: a head whose operations leave a class of worlds (reads, calls that lay new memory), and a tail that waits for all of it and goes one operation after another. One walk serves every order. -/
import Derived.Test.YtgipnbeipfhekaaGreatDoorMgFnT00
import Derived.StillTail
import Derived.Deep.Quiet
import Derived.Test.YtgipnbeipfhekaaGreatDoorMgFnT02
import Derived.Test.YtgipnbeipfhekaaGreatDoorMgFnT04
import Derived.IntWalk
import Derived.Test.YtgipnbeipfhekaaGreatDoorMgFnT03
import Derived.Test.YtgipnbeipfhekaaGreatDoorMgFnT01
import Derived.Laws.Concat
import Derived.Deep.RegionWith
namespace Go.Proofs.YtgipnbeipfhekaaGreatDoor.Tail
open Go.RowKit Go.Proofs.YtgipnbeipfhekaaGreatDoor Go.Proofs.YtgipnbeipfhekaaGreatDoor.Base
set_option linter.unusedVariables false
section
variable {P : Program} {ops : Array Oper} {md : Region.Mode} {C : World → Prop}
def wpAnyT (P : Program) (md : Region.Mode) (ops : Array Oper) (C : World → Prop) (n : Nat) (L : Array Bool → Act → Prop) : Nat → Array Bool → Act → Prop
 | 0, listed, a => L listed a
 | f + 1, listed, a => Region.ready md ops listed ≠ [] ∧ ∀ i ∈ Region.ready md ops listed, i < n ∧ qOp P ops C i (wpAnyT P md ops C n L f (listed.setIfInBounds i true)) a
theorem wpAny_of_headT {n g : Nat} {L : Array Bool → Act → Prop} {Q' : Exit → Act → World → Prop} (hL : ∀ listed a w, C w → L listed a → wpAny P md ops Q' g listed a w) :
  ∀ (f : Nat) (listed : Array Bool) (a : Act) (w : World), C w → wpAnyT P md ops C n L f listed a → wpAny P md ops Q' (f + g) listed a w
 | 0, listed, a, w, hw, h => by rw [Nat.zero_add]; exact hL _ _ _ hw h
 | f + 1, listed, a, w, hw, h => by
  rw [show f + 1 + g = (f + g) + 1 by omega]
  exact ⟨fun h0 => absurd h0 h.1, fun i hi => wpOp_of_qOp hw (fun a' w' hw' h' => wpAny_of_headT hL f _ a' w' hw' h') (h.2 i hi).2⟩
theorem wpAnyT_first {n i : Nat} {oi : Oper} {v : Value} {L : Array Bool → Act → Prop} (hi : ops[i]? = some oi) (hsel : ∀ (j : Nat) (o : Oper) cs b, ops[j]? = some o → o.op ≠ .select cs b)
  (hs : Region.sinkB md ops n = true) (hc : Region.chainB md ops n = true) (hn : n < ops.size) (hin : i < n)
  (hdone : ∀ listed a, L listed a → ∀ j ∈ Region.ready md ops listed, n ≤ j) :
  ∀ (f : Nat) (listed : Array Bool) (a : Act), HeadInv md ops n listed →
   (∀ j oj, ops[j]? = some oj → j ≠ i → listed.getD j true = false → (∀ e ∈ oj.after, Region.binds md e = true → e.on ≠ i) → oi.apart ops oj = true) →
   i ∈ Region.ready md ops listed → YieldsIn P ops C oi v a →
   wpAnyT P md ops C n L f (listed.setIfInBounds i true) (a.put oi.dst v) → wpAnyT P md ops C n L (f + 1) listed a := by
 intro f
 induction f with
 | zero =>
  intro listed a inv _ hr hy H
  have hun := (mem_ready.1 hr).1
  refine ⟨fun h => (by rw [h] at hr; cases hr), fun j hj => ?_⟩
  have hjn : j < n := by
   rcases Nat.lt_or_ge j n with h | h
   ·exact h
   ·exact absurd hj (tail_waits hs hc hn inv _ i rfl hin hun j h)
  refine ⟨hjn, ?_⟩
  by_cases hji : j = i
  ·subst hji; exact hy.qOp hi H
  ·have := hdone _ _ H j (ready_mono hj hji)
   omega
 | succ f ih =>
  intro listed a inv hfree hr hy H
  have hun := (mem_ready.1 hr).1
  refine ⟨fun h => (by rw [h] at hr; cases hr), fun j hj => ?_⟩
  have hjn : j < n := by
   rcases Nat.lt_or_ge j n with h | h
   ·exact h
   ·exact absurd hj (tail_waits hs hc hn inv _ i rfl hin hun j h)
  refine ⟨hjn, ?_⟩
  by_cases hji : j = i
  ·subst hji; exact hy.qOp hi H
  ·have h1 := (H.2 j (ready_mono hj hji)).2
   obtain ⟨hjun, oj, hoj, hall⟩ := mem_ready.1 hj
   have hnot : ∀ e ∈ oj.after, Region.binds md e = true → e.on ≠ i := fun e he hb heq => by
    have h1 := hall e he hb
    rw [heq, getD_both hun] at h1
    cases h1
   have h2 := qOp_put hoj (hfree j oj hoj hji hjun hnot) (fun cs b => hsel i oi cs b hi) (fun cs b => hsel j oj cs b hoj) hy h1
   have hfree' : ∀ k ok, ops[k]? = some ok → k ≠ i → (listed.setIfInBounds j true).getD k true = false →
     (∀ e ∈ ok.after, Region.binds md e = true → e.on ≠ i) → oi.apart ops ok = true := fun k ok hk hki hun hno => by
    refine hfree k ok hk hki ?_ hno
    by_cases hjk : j = k
    ·subst hjk; exact hjun
    ·rw [getD_set_ne true hjk] at hun; exact hun
   refine qOp_mono (fun a' h3 => ih (listed.setIfInBounds j true) a' (inv.set hj hjn) hfree' (ready_mono hr (Ne.symm hji)) h3.1 ?_) h2
   rw [Array.setIfInBounds_comm _ _ hji]
   exact h3.2
theorem wpAnyT_lex {n g : Nat} {Lq : Act → Prop} (hsel : Region.noSelect ops = true) (hs : Region.sinkB md ops n = true) (hc : Region.chainB md ops n = true) (hn : n < ops.size) :
  ∀ (l : List Oper) (k : Nat) (listed : Array Bool) (a : Act), (∀ j, j < l.length → l[j]? = ops[k + j]?) → k + l.length = n → HeadInv md ops n listed →
  Region.lexHead md ops g l.length k listed = true → wpQuiet P ops C Lq l a →
  wpAnyT P md ops C n (fun listed' a' => Region.seqB md ops g n listed' = true ∧ Lq a') l.length listed a
 | [], k, listed, a, _, hk, _, hB, h => by
  have : k = n := by simpa using hk
  subst this
  exact ⟨by simpa [Region.lexHead] using hB, h⟩
 | o :: l, k, listed, a, hl, hk, inv, hB, h => by
  have h0 : ops[k]? = some o := by simpa using (hl 0 (by simp)).symm
  simp only [List.length_cons, Region.lexHead, Bool.and_eq_true] at hB
  obtain ⟨⟨hr, hf⟩, hB'⟩ := hB
  have hkn : k < n := by simp only [List.length_cons] at hk; omega
  have hr' : k ∈ Region.ready md ops listed := by simpa using hr
  have hst : qOp P ops C k (wpQuiet P ops C Lq l) a := by unfold qOp; simp only [h0]; exact h
  obtain ⟨v, hy, hK⟩ := yieldsIn_of_qOp h0 hst
  exact wpAnyT_first h0 (Region.noSelect_spec hsel) hs hc hn hkn (fun listed' a' hL => seqB_ready hL.1) l.length listed a inv (Region.free_spec h0 hf) hr' hy
   (wpAnyT_lex hsel hs hc hn l (k + 1) _ _ (fun j hj => by have := hl (j + 1) (by simp; omega); simpa [Nat.add_assoc, Nat.add_comm 1 j] using this) (by simp only [List.length_cons] at hk; omega) (inv.set hr' hkn) hB' hK)
theorem wp_region_quiet_tail {id : Nat} {Q : Exit → Act → World → Prop} {a : Act} {w : World} {l : List Oper} (n : Nat) (hm : P.follows .mixedOrders = true) (hB : Region.lexTailB .any l.toArray n = true) (hC : C { w with drawn := w.drawn + 1 })
  (h : wpQuiet P l.toArray C (fun a' => ∀ w', C w' → wpList P l.toArray Q (l.drop n) a' w') (l.take n) a) : (Code.region id l.toArray true).wp P Q a w := by
 simp only [Region.lexTailB, Bool.and_eq_true, decide_eq_true_eq] at hB
 obtain ⟨⟨⟨⟨hsel, hn⟩, hs⟩, hc⟩, hlex⟩ := hB
 have hn' : n < l.length := by simpa using hn
 have htl : (l.take n).length = n := by simp; omega
 have hdl : (l.drop n).length = l.toArray.size - n := by simp
 have inv0 : HeadInv .any l.toArray n (Array.replicate l.toArray.size false) :=
  ⟨by simp, fun j oj _ hl => (by rw [getD_replicate_false] at hl; cases hl), fun t _ ht => getD_in (by simpa using ht) (getD_replicate_false _ _)⟩
 have H := wpAnyT_lex (C := C) (md := .any) (g := l.toArray.size - n) hsel hs hc hn (l.take n) 0 _ a (fun j hj => by
  have hj' : j < n := by rw [htl] at hj; exact hj
  simp [hj']) (by simpa using htl) inv0 (by rw [htl]; exact hlex) h
 refine wp_region_any hm ?_
 have := wpAny_of_headT (Q' := Q) (g := l.toArray.size - n) (fun listed a' w' hw' hL => by
  have := wpAny_of_seq (md := .any) (Q' := Q) (l.drop n) n listed a' w' (fun j => by simp [List.getElem?_drop]) (by rw [hdl]; exact hL.1) (hL.2 w' hw')
  rwa [hdl] at this) _ _ _ _ hC H
 rw [htl, show n + (l.toArray.size - n) = l.toArray.size by omega] at this
 exact this
theorem wp_region_below_tail {id : Nat} {Q : Exit → Act → World → Prop} {a : Act} {w : World} {l : List Oper} (n : Nat) (hm : P.follows .mixedOrders = true) (hB : Region.lexTailB .any l.toArray n = true)
  (h : wpQuiet P l.toArray (Below w.heap.size w) (fun a' => ∀ w', Below w.heap.size w w' → wpList P l.toArray Q (l.drop n) a' w') (l.take n) a) : (Code.region id l.toArray true).wp P Q a w :=
 wp_region_quiet_tail n hm hB ((Below.refl w.heap.size w).drew) h
end
end Go.Proofs.YtgipnbeipfhekaaGreatDoor.Tail
namespace Go.Proofs.YtgipnbeipfhekaaGreatDoor.Pow
open Go.RowKit Go.Proofs.YtgipnbeipfhekaaGreatDoor Go.Proofs.YtgipnbeipfhekaaGreatDoor.Base Go.Proofs.YtgipnbeipfhekaaGreatDoor.Mem Go.Proofs.YtgipnbeipfhekaaGreatDoor.Blk Go.Proofs.YtgipnbeipfhekaaGreatDoor.CycM Go.Proofs.YtgipnbeipfhekaaGreatDoor.Cong
set_option linter.unusedVariables false
def thF (m f1 f2 : Nat) : Nat := f1 * f2 % m
def thA (m a1 f2 a2 : Nat) : Nat := (f2 * a1 + a2) % m
theorem step_then (m f1 a1 f2 a2 x : Nat) : stepN m (thF m f1 f2) (thA m a1 f2 a2) x = stepN m f2 a2 (stepN m f1 a1 x) := by
 unfold stepN thF thA
 rw [Nat.add_mod, Nat.mul_mod, Nat.mod_mod, Nat.mod_mod, ← Nat.mul_mod, ← Nat.add_mod]
 conv => rhs; rw [Nat.add_mod, Nat.mul_mod, Nat.mod_mod, ← Nat.mul_mod, ← Nat.add_mod]
 congr 1
 grind
theorem iter_two {T U : Nat → Nat} {m : Nat} (hT : ∀ s, s < m → T s < m) (hU : ∀ s, s < m → U s = T (T s)) {x : Nat} (hx : x < m) : ∀ q, iter U x q = iter T x (2 * q)
 | 0 => rfl
 | q + 1 => by
  rw [iter_succ, iter_two hT hU hx q, hU _ (iter_lt hT hx _), show 2 * (q + 1) = 2 * q + 1 + 1 by omega, iter_succ, iter_succ]
def PowOf (m f a n F A : Nat) : Prop := F < m ∧ A < m ∧ ∀ x, x < m → stepN m F A x = iter (stepN m f a) x n
structure PInv (m f a n k Fo Ao Fc Ac : Nat) : Prop where
 h1 : Fo < m
 h2 : Ao < m
 h3 : Fc < m
 h4 : Ac < m
 is : ∀ x, x < m → iter (stepN m Fc Ac) (stepN m Fo Ao x) k = iter (stepN m f a) x n
theorem PInv.start {m f a n : Nat} (hm : 2 ≤ m) (hf : f < m) (ha : a < m) : PInv m f a n n 1 0 f a :=
 ⟨by omega, by omega, hf, ha, fun x hx => by rw [show stepN m 1 0 x = x by simp [stepN, Nat.mod_eq_of_lt hx]]⟩
theorem PInv.odd {m f a n q Fo Ao Fc Ac : Nat} (h : PInv m f a n (2 * q + 1) Fo Ao Fc Ac) : PInv m f a n q (thF m Fo Fc) (thA m Ao Fc Ac) (thF m Fc Fc) (thA m Ac Fc Ac) := by
 have h0 : 0 < m := by have := h.h1; omega
 have hT : ∀ s, s < m → stepN m Fc Ac s < m := fun s _ => Nat.mod_lt _ h0
 refine ⟨Nat.mod_lt _ h0, Nat.mod_lt _ h0, Nat.mod_lt _ h0, Nat.mod_lt _ h0, fun x hx => ?_⟩
 rw [step_then, ← h.is x hx, iter_two hT (fun s _ => step_then m Fc Ac Fc Ac s) (hT _ (stepN_lt h0 x)), show 2 * q + 1 = 1 + 2 * q by omega, iter_add]
 rfl
theorem PInv.even {m f a n q Fo Ao Fc Ac : Nat} (h : PInv m f a n (2 * q) Fo Ao Fc Ac) : PInv m f a n q Fo Ao (thF m Fc Fc) (thA m Ac Fc Ac) := by
 have h0 : 0 < m := by have := h.h1; omega
 have hT : ∀ s, s < m → stepN m Fc Ac s < m := fun s _ => Nat.mod_lt _ h0
 refine ⟨h.h1, h.h2, Nat.mod_lt _ h0, Nat.mod_lt _ h0, fun x hx => ?_⟩
 rw [← h.is x hx, iter_two hT (fun s _ => step_then m Fc Ac Fc Ac s) (stepN_lt h0 x)]
theorem PInv.done {m f a n Fo Ao Fc Ac : Nat} (h : PInv m f a n 0 Fo Ao Fc Ac) : PowOf m f a n Fo Ao := ⟨h.h1, h.h2, h.is⟩
theorem thF_int (m f1 f2 : Nat) : ((f1 : Int) * (f2 : Int)) % (m : Int) = ((thF m f1 f2 : Nat) : Int) := by unfold thF; simp
theorem thA_int (m a1 f2 a2 : Nat) : ((f2 : Int) * (a1 : Int) + (a2 : Int)) % (m : Int) = ((thA m a1 f2 a2 : Nat) : Int) := by unfold thA; simp
set_option maxHeartbeats 1000000 in
set_option maxRecDepth 100000 in
theorem l03Then_any (b o b' o' m f1 a1 f2 a2 : Nat) (m' : Int) (w : World) (h0 : w.cell? ⟨b, o, none⟩ = some (.int .i64 m)) (h1 : w.cell? ⟨b, o + 1, none⟩ = some (.int .i64 f1)) (h2 : w.cell? ⟨b, o + 2, none⟩ = some (.int .i64 a1))
  (g0 : w.cell? ⟨b', o', none⟩ = some (.int .i64 m')) (g1 : w.cell? ⟨b', o' + 1, none⟩ = some (.int .i64 f2)) (g2 : w.cell? ⟨b', o' + 2, none⟩ = some (.int .i64 a2)) (hb : b < w.heap.size) (hb' : b' < w.heap.size)
  (hm : 2 ≤ m) (hm2 : m ≤ 100000) (hf1 : f1 < m) (ha1 : a1 < m) (hf2 : f2 < m) (ha2 : a2 < m) :
  Calls Tryz.prog 177 #[.pointer (some ⟨b, o, none⟩), .pointer (some ⟨b', o', none⟩)] w fun e w' => e = .returned (.agg #[.int .i64 ((m : Nat) : Int), .int .i64 ((thF m f1 f2 : Nat) : Int), .int .i64 ((thA m a1 f2 a2 : Nat) : Int)]) ∧ Below w.heap.size w w' := by
 obtain ⟨p1, p2⟩ := prod_le hf1 hf2 hm2
 obtain ⟨p3, p4⟩ := prod_le hf2 ha1 hm2
 have hm0 : ((m : Int) == 0) = false := by simp; omega
 obtain ⟨W1, hW1⟩ : ∃ W1, W1 = w.alloc (.cells #[.int .i64 0, .int .i64 0, .int .i64 0] 27) := ⟨_, rfl⟩
 have B1 : Below w.heap.size w W1 := by rw [hW1]; exact (Below.refl _ _).alloc (Nat.le_refl _) _
 have K1 : Blk W1 w.heap.size 27 #[.int .i64 0, .int .i64 0, .int .i64 0] := by rw [hW1]; exact Blk.new _ _ _
 have c0 : W1.cell? ⟨b, o, none⟩ = some (.int .i64 m) := (B1.cell (p := ⟨b, o, none⟩) hb).trans h0
 have c1 : W1.cell? ⟨b, o + 1, none⟩ = some (.int .i64 f1) := (B1.cell (p := ⟨b, o + 1, none⟩) hb).trans h1
 have c2 : W1.cell? ⟨b, o + 2, none⟩ = some (.int .i64 a1) := (B1.cell (p := ⟨b, o + 2, none⟩) hb).trans h2
 have d0 : W1.cell? ⟨b', o', none⟩ = some (.int .i64 m') := (B1.cell (p := ⟨b', o', none⟩) hb').trans g0
 have d1 : W1.cell? ⟨b', o' + 1, none⟩ = some (.int .i64 f2) := (B1.cell (p := ⟨b', o' + 1, none⟩) hb').trans g1
 have d2 : W1.cell? ⟨b', o' + 2, none⟩ = some (.int .i64 a2) := (B1.cell (p := ⟨b', o' + 2, none⟩) hb').trans g2
 have HW := Lib.hid hW1
 have HK := Lib.hid K1
 have HB := Lib.hid B1
 have f0 := K1.frz 0
 have f1' := K1.frz 1
 have f2' := K1.frz 2
 have e0 := K1.at 0 (v := .int .i64 0) rfl
 have e1 := K1.at 1 (v := .int .i64 0) rfl
 have e2 := K1.at 2 (v := .int .i64 0) rfl
 have HF := Lib.hid (thF_int m f1 f2)
 have HA := Lib.hid (thA_int m a1 f2 a2)
 clear hW1 B1 K1 h0 h1 h2 g0 g1 g2
 generalize thF m f1 f2 = F at *
 generalize thA m a1 f2 a2 = A at *
 go_enter Tryz.func177, Tryz.ntmps177
 go_wp2_with fail
 rw [← HW.out]
 (refine Tail.wp_region_quiet_tail (C := fun w' => ∃ n, w' = World.drewN W1 n) 38 (by kernel_rfl) (by kernel_rfl) ⟨1, rfl⟩ ?_; simp only [List.take_succ_cons, List.take_zero, List.drop_succ_cons, List.drop_zero]; (repeat (go_big_quiet_step (fail))); refine wpQuiet_nil ?_; rintro _ ⟨nq, rfl⟩)
 go_wp2
 rw [HF.out, HA.out]
 have S := (((HK.out.drewN nq).setTo 0 (.int .i64 (m : Int)) rfl).setTo 1 (.int .i64 (F : Int)) rfl).setTo 2 (.int .i64 (A : Int)) rfl
 have q0 := S.at 0 rfl
 have q1 := S.at 1 rfl
 have q2 := S.at 2 rfl
 refine bodyPost_ret (v := .agg #[.int .i64 ((m : Nat) : Int), .int .i64 ((F : Nat) : Int), .int .i64 ((A : Nat) : Int)]) (by simp [results, Tryz.results177, go_sem, q0, q1, q2]) rfl ⟨rfl, ?_⟩
 exact (((below_drewN HB.out nq).setCell (by simp) _).setCell (by simp) _).setCell (by simp) _
set_option maxHeartbeats 1000000 in
set_option maxRecDepth 100000 in
theorem implThen_any (m f1 a1 f2 a2 : Nat) (w : World) (hm : 2 ≤ m) (hm2 : m ≤ 100000) (hf1 : f1 < m) (ha1 : a1 < m) (hf2 : f2 < m) (ha2 : a2 < m) :
  Calls Tryz.prog 120 #[.agg #[.int .i64 ((m : Nat) : Int), .int .i64 ((f1 : Nat) : Int), .int .i64 ((a1 : Nat) : Int)], .agg #[.int .i64 ((m : Nat) : Int), .int .i64 ((f2 : Nat) : Int), .int .i64 ((a2 : Nat) : Int)]] w fun e w' => e = .returned (.agg #[.int .i64 ((m : Nat) : Int), .int .i64 ((thF m f1 f2 : Nat) : Int), .int .i64 ((thA m a1 f2 a2 : Nat) : Int)]) ∧ Below w.heap.size w w' := by
 obtain ⟨p1, p2⟩ := prod_le hf1 hf2 hm2
 have hm0 : ((m : Int) == 0) = false := by simp; omega
 obtain ⟨W3, hW3⟩ : ∃ W3, W3 = ((w.alloc (.cells #[.int .i64 ((m : Nat) : Int), .int .i64 ((f1 : Nat) : Int), .int .i64 ((a1 : Nat) : Int)] 27)).alloc (.cells #[.int .i64 ((m : Nat) : Int), .int .i64 ((f2 : Nat) : Int), .int .i64 ((a2 : Nat) : Int)] 27)).alloc (.cells #[.int .i64 0, .int .i64 0, .int .i64 0] 27) := ⟨_, rfl⟩
 have B3 : Below w.heap.size w W3 := by rw [hW3]; exact (((Below.refl _ _).alloc (Nat.le_refl _) _).alloc (by simp) _).alloc (by simp; omega) _
 have k0 : Blk W3 w.heap.size 27 #[.int .i64 ((m : Nat) : Int), .int .i64 ((f1 : Nat) : Int), .int .i64 ((a1 : Nat) : Int)] := by rw [hW3]; exact ((Blk.new _ _ _).alloc _).alloc _
 have k1 : Blk W3 (w.heap.size + 1) 27 #[.int .i64 ((m : Nat) : Int), .int .i64 ((f2 : Nat) : Int), .int .i64 ((a2 : Nat) : Int)] := by rw [hW3]; exact (Blk.newAt _ _ (by simp)).alloc _
 have k2 : Blk W3 (w.heap.size + 1 + 1) 27 #[.int .i64 0, .int .i64 0, .int .i64 0] := by rw [hW3]; exact Blk.newAt _ _ (by simp)
 have HS : Hid (∀ w, Calls Tryz.prog 69 #[.agg #[.int .i64 ((m : Nat) : Int), .int .i64 ((f2 : Nat) : Int), .int .i64 ((a2 : Nat) : Int)], .int .i64 (a1 : Int)] w fun e w' => e = .returned (.int .i64 (thA m a1 f2 a2 : Nat)) ∧ Below w.heap.size w w') := Lib.hid fun w => congStep_any m f2 a2 a1 w hm hm2 hf2 ha2 ha1
 have HW := Lib.hid hW3
 have HB := Lib.hid B3
 have K0 := Lib.hid k0
 have K1 := Lib.hid k1
 have K2 := Lib.hid k2
 have HF := Lib.hid (thF_int m f1 f2)
 clear hW3 B3 k0 k1 k2
 generalize thF m f1 f2 = F at *
 generalize thA m a1 f2 a2 = A at *
 go_enter Tryz.func120, Tryz.ntmps120
 go_wp2_with fail
 rw [← HW.out]
 (refine Tail.wp_region_below_tail 15 (by kernel_rfl) (by kernel_rfl) ?_; simp only [List.take_succ_cons, List.take_zero, List.drop_succ_cons, List.drop_zero]; (repeat (first | go_big_quiet_skip | (go_big_quiet_want; go_big_quiet_op; first | go_big_quiet_on | (refine ⟨_, fun _ _ => rfl, ?_⟩; go_big_quiet_on) | (apply Exists.intro; refine ⟨fun wq hq => ?_, ?_⟩; (have x0 := (K0.out.belowS hq).at 0 (v := .int .i64 (m : Int)) rfl; have x1 := (K0.out.belowS hq).at 1 (v := .int .i64 (f1 : Int)) rfl; have x2 := (K0.out.belowS hq).at 2 (v := .int .i64 (a1 : Int)) rfl; have y0 := (K1.out.belowS hq).at 0 (v := .int .i64 (m : Int)) rfl; have y1 := (K1.out.belowS hq).at 1 (v := .int .i64 (f2 : Int)) rfl; have y2 := (K1.out.belowS hq).at 2 (v := .int .i64 (a2 : Int)) rfl; first | (go_simp; done) | (go_simp; rfl) | (go_at_call 69; refine (HS.out _).mono ?_; rintro e w1 ⟨rfl, hb1⟩; exact ⟨rfl, Base.Below.nextA hq hb1⟩)); go_big_quiet_on)))); refine wpQuiet_nil ?_; intro wq hq)
 have K2q := K2.out.belowS hq
 have g0 := K2q.frz 0
 have g1 := K2q.frz 1
 have g2 := K2q.frz 2
 have e0 := K2q.at 0 (v := .int .i64 0) rfl
 have e1 := K2q.at 1 (v := .int .i64 0) rfl
 have e2 := K2q.at 2 (v := .int .i64 0) rfl
 have HQ := Lib.hid (HB.out.trans (hq.mono HB.out.size))
 have KQ := Lib.hid K2q
 clear hq K2q
 go_wp2
 rw [HF.out]
 have S := ((KQ.out.setTo 0 (.int .i64 (m : Int)) rfl).setTo 1 (.int .i64 (F : Int)) rfl).setTo 2 (.int .i64 (A : Int)) rfl
 have q0 := S.at 0 rfl
 have q1 := S.at 1 rfl
 have q2 := S.at 2 rfl
 refine bodyPost_ret (v := .agg #[.int .i64 ((m : Nat) : Int), .int .i64 ((F : Nat) : Int), .int .i64 ((A : Nat) : Int)]) (by simp [results, Tryz.results120, go_sem, q0, q1, q2]) rfl ⟨rfl, ?_⟩
 exact ((HQ.out.setCell (by simp; omega) _).setCell (by simp; omega) _).setCell (by simp; omega) _
def powA (m f a n : Nat) : Nat := iter (stepN m f a) 0 n
def powF (m f a n : Nat) : Nat := (iter (stepN m f a) 1 n + m - iter (stepN m f a) 0 n) % m
theorem PowOf.eq {m f a n F A : Nat} (hm : 2 ≤ m) (h : PowOf m f a n F A) : F = powF m f a n ∧ A = powA m f a n := by
 obtain ⟨h1, h2, h3⟩ := h
 have e0 := h3 0 (by omega)
 have e1 := h3 1 (by omega)
 unfold powF powA
 rw [← e0, ← e1]
 simp only [stepN, Nat.mul_zero, Nat.zero_add, Nat.mul_one, Nat.mod_eq_of_lt h2, and_true]
 by_cases hlt : F + A < m
 ·rw [Nat.mod_eq_of_lt hlt, show F + A + m - A = F + m by omega, Nat.add_mod_right, Nat.mod_eq_of_lt h1]
 ·have e3 : (F + A) % m = F + A - m := by rw [Nat.mod_eq_sub_mod (by omega), Nat.mod_eq_of_lt (by omega)]
  rw [e3, show F + A - m + m - A = F by omega, Nat.mod_eq_of_lt h1]
theorem PowOf.zero {m f a : Nat} (hm : 2 ≤ m) : PowOf m f a 0 1 0 := ⟨by omega, by omega, fun x hx => by simp [stepN, iter, Nat.mod_eq_of_lt hx]⟩
theorem PowOf.succ {m f a n F A : Nat} (hm : 2 ≤ m) (h : PowOf m f a n F A) : PowOf m f a (n + 1) (thF m F f) (thA m A f a) :=
 ⟨Nat.mod_lt _ (by omega), Nat.mod_lt _ (by omega), fun x hx => by rw [step_then, h.2.2 x hx]; rfl⟩
theorem powOf {m f a : Nat} (hm : 2 ≤ m) : ∀ n, PowOf m f a n (powF m f a n) (powA m f a n)
 | 0 => by
  have h := PowOf.zero (f := f) (a := a) hm
  obtain ⟨e1, e2⟩ := h.eq hm
  rw [← e1, ← e2]; exact h
 | n + 1 => by
  have h := (powOf (f := f) (a := a) hm n).succ hm
  obtain ⟨e1, e2⟩ := h.eq hm
  rw [← e1, ← e2]; exact h
def PowRet (m f a n : Nat) (w : World) (e : Ending) (w' : World) : Prop := e = .returned (.agg #[.int .i64 ((m : Nat) : Int), .int .i64 ((powF m f a n : Nat) : Int), .int .i64 ((powA m f a n : Nat) : Int)]) ∧ Below w.heap.size w w'
theorem PowRet.of {m f a n F A : Nat} {w w' : World} {e : Ending} (hm : 2 ≤ m) (h : PowOf m f a n F A) (he : e = .returned (.agg #[.int .i64 ((m : Nat) : Int), .int .i64 ((F : Nat) : Int), .int .i64 ((A : Nat) : Int)])) (hb : Below w.heap.size w w') : PowRet m f a n w e w' := by
 obtain ⟨e1, e2⟩ := h.eq hm
 subst e1 e2
 exact ⟨he, hb⟩
def PRel (m f a n r p q : Nat) (w : World) (nv : Value) (wr : World) : Prop :=
 ∃ k Fo Ao Fc Ac : Nat, k ≤ n ∧ nv = .int .i64 (k : Int) ∧ PInv m f a n k Fo Ao Fc Ac ∧ Blk wr r 27 #[.int .i64 0, .int .i64 0, .int .i64 0] ∧
  Blk wr p 27 #[.int .i64 ((m : Nat) : Int), .int .i64 ((Fo : Nat) : Int), .int .i64 ((Ao : Nat) : Int)] ∧ Blk wr q 27 #[.int .i64 ((m : Nat) : Int), .int .i64 ((Fc : Nat) : Int), .int .i64 ((Ac : Nat) : Int)] ∧ Below w.heap.size w wr
set_option maxHeartbeats 1000000 in
set_option maxRecDepth 100000 in
theorem l03Power_any (b o m f a n : Nat) (w : World) (h0 : w.cell? ⟨b, o, none⟩ = some (.int .i64 m)) (h1 : w.cell? ⟨b, o + 1, none⟩ = some (.int .i64 f)) (h2 : w.cell? ⟨b, o + 2, none⟩ = some (.int .i64 a))
  (hb : b < w.heap.size) (hm : 2 ≤ m) (hm2 : m ≤ 100000) (hf : f < m) (ha : a < m) (hn : n ≤ 1000000000000000000) :
  Calls Tryz.prog 130 #[.pointer (some ⟨b, o, none⟩), .int .i64 (n : Int)] w (PowRet m f a n w) := by
 have HI := Lib.hid (PInv.start (n := n) hm hf ha)
 go_enter Tryz.func130, Tryz.ntmps130
 go_wp2
 go_loopw [1] (fun nv wr => PRel m f a n w.heap.size (w.heap.size + 1) (w.heap.size + 1 + 1) w nv wr) (fun nv _ => (intOf nv).toNat)
 case atStart =>
  exact ⟨n, 1, 0, f, a, Nat.le_refl _, rfl, HI.out, ((Blk.new _ _ _).alloc _).alloc _, (Blk.newAt _ _ (by simp)).alloc _, Blk.newAt _ _ (by simp), (((Below.refl _ _).alloc (Nat.le_refl _) _).alloc (by simp) _).alloc (by simp; omega) _⟩
 case round =>
  obtain ⟨k, Fo, Ao, Fc, Ac, hk, rfl, hP, k0, kp, kq, hbel⟩ := hrel
  have K0 := Lib.hid k0
  have KP := Lib.hid kp
  have KQ := Lib.hid kq
  have HB := Lib.hid hbel
  have hlq := kq.lt
  have hP' := Lib.hid hP
  obtain ⟨b1, b2, b3, b4, _⟩ := hP
  have hz := hbel.size
  clear hbel k0 h0 h1 h2
  by_cases hk0 : k = 0
  ·subst hk0
   have p0 := kp.at 0 (v := .int .i64 (m : Int)) rfl
   have p1 := kp.at 1 (v := .int .i64 (Fo : Int)) rfl
   have p2 := kp.at 2 (v := .int .i64 (Ao : Int)) rfl
   have r0 := K0.out.at 0 (v := .int .i64 0) rfl
   have r1 := K0.out.at 1 (v := .int .i64 0) rfl
   have r2 := K0.out.at 2 (v := .int .i64 0) rfl
   have f0 := K0.out.frz 0
   have f1 := K0.out.frz 1
   have f2 := K0.out.frz 2
   clear kp kq
   go_wp2
   have S := K0.out.set3 (.int .i64 (m : Int)) (.int .i64 (Fo : Int)) (.int .i64 (Ao : Int))
   have q0 := S.at 0 rfl
   have q1 := S.at 1 rfl
   have q2 := S.at 2 rfl
   simp only [put3] at q0 q1 q2
   refine bodyPost_ret (v := .agg #[.int .i64 ((m : Nat) : Int), .int .i64 ((Fo : Nat) : Int), .int .i64 ((Ao : Nat) : Int)]) (by simp [results, Tryz.results130, go_sem, q0, q1, q2]) rfl (PowRet.of hm hP'.out.done rfl ?_)
   exact below_put3 HB.out (Nat.le_refl _) _ _ _
  ·have c0 := kq.at 0 (v := .int .i64 (m : Int)) rfl
   have c1 := kq.at 1 (v := .int .i64 (Fc : Int)) rfl
   have c2 := kq.at 2 (v := .int .i64 (Ac : Int)) rfl
   by_cases hodd : k % 2 = 1
   ·obtain ⟨q, rfl⟩ : ∃ q, k = 2 * q + 1 := ⟨k / 2, by omega⟩
    have p0 := kp.at 0 (v := .int .i64 (m : Int)) rfl
    have p1 := kp.at 1 (v := .int .i64 (Fo : Int)) rfl
    have p2 := kp.at 2 (v := .int .i64 (Ao : Int)) rfl
    have HC := Lib.hid (l03Then_any _ 0 _ 0 m Fo Ao Fc Ac m wr p0 p1 p2 c0 c1 c2 kp.lt kq.lt hm hm2 b1 b2 b3 b4)
    have HN := Lib.hid hP'.out.odd
    clear kp kq p0 p1 p2 c0 c1 c2
    go_wp2_with fail
    refine HC.out.mono ?_
    rintro e w1 ⟨rfl, hb1⟩
    have s0 := KP.out.belowS hb1
    have t0 := KQ.out.belowS hb1
    have n0 := Lib.hid (K0.out.belowS hb1)
    have hb1' := Lib.hid (HB.out.trans (hb1.mono hz))
    obtain ⟨w2, hw2⟩ : ∃ w2, w2 = put3 w1 (w.heap.size + 1) (.int .i64 (m : Int)) (.int .i64 (thF m Fo Fc : Nat)) (.int .i64 (thA m Ao Fc Ac : Nat)) := ⟨_, rfl⟩
    have S2 : Blk w2 (w.heap.size + 1) 27 _ := hw2 ▸ s0.set3 _ _ _
    have T2 : Blk w2 (w.heap.size + 1 + 1) 27 _ := hw2 ▸ t0.oth3 _ _ _ (by omega)
    have N2 := Lib.hid (show Blk w2 w.heap.size 27 _ from hw2 ▸ n0.out.oth3 _ _ _ (by omega))
    have B2 := Lib.hid (show Below w.heap.size w w2 from hw2 ▸ below_put3 hb1'.out (by omega) _ _ _)
    have HS2 := Lib.hid S2
    have HT2 := Lib.hid T2
    unfold put3 at hw2
    have HW2 := Lib.hid hw2
    have f0 := s0.frz 0
    have f1 := s0.frz 1
    have f2 := s0.frz 2
    have u0 := s0.at 0 (v := .int .i64 (m : Int)) rfl
    have u1 := s0.at 1 (v := .int .i64 (Fo : Int)) rfl
    have u2 := s0.at 2 (v := .int .i64 (Ao : Int)) rfl
    have c0 := T2.at 0 (v := .int .i64 (m : Int)) rfl
    have c1 := T2.at 1 (v := .int .i64 (Fc : Int)) rfl
    have c2 := T2.at 2 (v := .int .i64 (Ac : Int)) rfl
    have HC2 := Lib.hid (l03Then_any _ 0 _ 0 m Fc Ac Fc Ac m w2 c0 c1 c2 c0 c1 c2 T2.lt T2.lt hm hm2 b3 b4 b3 b4)
    clear S2 T2 c0 c1 c2 hw2 s0 t0 hb1
    generalize thF m Fo Fc = Fo2 at *
    generalize thA m Ao Fc Ac = Ao2 at *
    generalize thF m Fc Fc = Fc2 at *
    generalize thA m Ac Fc Ac = Ac2 at *
    go_wp2_with fail
    rw [← HW2.out]
    refine HC2.out.mono ?_
    rintro e w3 ⟨rfl, hb3⟩
    have s3 := HS2.out.belowS hb3
    have t3 := HT2.out.belowS hb3
    have g0 := t3.frz 0
    have g1 := t3.frz 1
    have g2 := t3.frz 2
    have v0 := t3.at 0 (v := .int .i64 (m : Int)) rfl
    have v1 := t3.at 1 (v := .int .i64 (Fc : Int)) rfl
    have v2 := t3.at 2 (v := .int .i64 (Ac : Int)) rfl
    have HS3 := Lib.hid s3
    have HT3 := Lib.hid t3
    have HN3 := Lib.hid (N2.out.belowS hb3)
    have HB3 := Lib.hid (B2.out.trans (hb3.mono B2.out.size))
    clear s3 t3 hb3
    go_wp2
    go_roundw
    case rel => exact ⟨q, Fo2, Ao2, Fc2, Ac2, by omega, by go_num, HN.out, HN3.out.oth3 _ _ _ (by omega), HS3.out.oth3 _ _ _ (by omega), HT3.out.set3 _ _ _, below_put3 HB3.out (by omega) _ _ _⟩
    case measure => simp [intOf]; omega
   ·obtain ⟨q, rfl⟩ : ∃ q, k = 2 * q := ⟨k / 2, by omega⟩
    have HC2 := Lib.hid (l03Then_any _ 0 _ 0 m Fc Ac Fc Ac m wr c0 c1 c2 c0 c1 c2 kq.lt kq.lt hm hm2 b3 b4 b3 b4)
    have HN := Lib.hid hP'.out.even
    clear kp kq c0 c1 c2
    generalize thF m Fc Fc = Fc2 at *
    generalize thA m Ac Fc Ac = Ac2 at *
    go_wp2_with fail
    refine HC2.out.mono ?_
    rintro e w3 ⟨rfl, hb3⟩
    have s3 := KP.out.belowS hb3
    have t3 := KQ.out.belowS hb3
    have g0 := t3.frz 0
    have g1 := t3.frz 1
    have g2 := t3.frz 2
    have v0 := t3.at 0 (v := .int .i64 (m : Int)) rfl
    have v1 := t3.at 1 (v := .int .i64 (Fc : Int)) rfl
    have v2 := t3.at 2 (v := .int .i64 (Ac : Int)) rfl
    have HS3 := Lib.hid s3
    have HT3 := Lib.hid t3
    have HN3 := Lib.hid (K0.out.belowS hb3)
    have HB3 := Lib.hid (HB.out.trans (hb3.mono hz))
    clear s3 t3 hb3
    go_wp2
    go_roundw
    case rel => exact ⟨q, Fo, Ao, Fc2, Ac2, by omega, by go_num, HN.out, HN3.out.oth3 _ _ _ (by omega), HS3.out.oth3 _ _ _ (by omega), HT3.out.set3 _ _ _, below_put3 HB3.out (by omega) _ _ _⟩
    case measure => simp [intOf]; omega
set_option maxHeartbeats 1000000 in
set_option maxRecDepth 100000 in
theorem implPower_any (m f a n : Nat) (w : World) (hm : 2 ≤ m) (hm2 : m ≤ 100000) (hf : f < m) (ha : a < m) (hn : n ≤ 1000000000000000000) :
  Calls Tryz.prog 72 #[.agg #[.int .i64 ((m : Nat) : Int), .int .i64 ((f : Nat) : Int), .int .i64 ((a : Nat) : Int)], .int .i64 (n : Int)] w (PowRet m f a n w) := by
 have HI := Lib.hid (PInv.start (n := n) hm hf ha)
 have hm0 : ((m : Int) == 0) = false := by simp; omega
 have h1m : (1 : Int) % (m : Int) = 1 := Int.emod_eq_of_lt (by omega) (by omega)
 go_enter Tryz.func72, Tryz.ntmps72
 go_wp2
 go_region
 all_goals
  go_wp2
  clear h1m
  go_loopw [1] (fun nv wr => PRel m f a n (w.heap.size + 1) (w.heap.size + 1 + 1) w.heap.size w nv wr) (fun nv _ => (intOf nv).toNat)
 case atStart =>
  have B3 := ((((Below.refl w.heap.size w).alloc (Nat.le_refl _) (.cells #[.int .i64 ((m : Nat) : Int), .int .i64 ((f : Nat) : Int), .int .i64 ((a : Nat) : Int)] 27)).alloc (by simp) (.cells #[.int .i64 0, .int .i64 0, .int .i64 0] 27)).alloc (by simp; omega) (.cells #[.int .i64 ((m : Nat) : Int), .int .i64 ((1 : Nat) : Int), .int .i64 ((0 : Nat) : Int)] 27)).drew
  exact ⟨n, 1, 0, f, a, Nat.le_refl _, rfl, HI.out, ((Blk.newAt _ _ (by simp)).alloc _).drew, (Blk.newAt _ _ (by simp)).drew, (((Blk.new _ _ _).alloc _).alloc _).drew, B3⟩
 case round =>
  obtain ⟨k, Fo, Ao, Fc, Ac, hk, rfl, hP, k0, kp, kq, hbel⟩ := hrel
  have K0 := Lib.hid k0
  have KP := Lib.hid kp
  have KQ := Lib.hid kq
  have HB := Lib.hid hbel
  have hlp := kp.lt
  have hP' := Lib.hid hP
  obtain ⟨b1, b2, b3, b4, _⟩ := hP
  have hz := hbel.size
  clear hbel k0
  have p0 := kp.at 0 (v := .int .i64 (m : Int)) rfl
  have p1 := kp.at 1 (v := .int .i64 (Fo : Int)) rfl
  have p2 := kp.at 2 (v := .int .i64 (Ao : Int)) rfl
  by_cases hk0 : k = 0
  ·subst hk0
   have r0 := K0.out.at 0 (v := .int .i64 0) rfl
   have r1 := K0.out.at 1 (v := .int .i64 0) rfl
   have r2 := K0.out.at 2 (v := .int .i64 0) rfl
   have f0 := K0.out.frz 0
   have f1 := K0.out.frz 1
   have f2 := K0.out.frz 2
   clear kp kq
   go_wp2
   have S := K0.out.set3 (.int .i64 (m : Int)) (.int .i64 (Fo : Int)) (.int .i64 (Ao : Int))
   have q0 := S.at 0 rfl
   have q1 := S.at 1 rfl
   have q2 := S.at 2 rfl
   simp only [put3] at q0 q1 q2
   refine bodyPost_ret (v := .agg #[.int .i64 ((m : Nat) : Int), .int .i64 ((Fo : Nat) : Int), .int .i64 ((Ao : Nat) : Int)]) (by simp [results, Tryz.results72, go_sem, q0, q1, q2]) rfl (PowRet.of hm hP'.out.done rfl ?_)
   exact below_put3 HB.out (by simp) _ _ _
  ·have c0 := kq.at 0 (v := .int .i64 (m : Int)) rfl
   have c1 := kq.at 1 (v := .int .i64 (Fc : Int)) rfl
   have c2 := kq.at 2 (v := .int .i64 (Ac : Int)) rfl
   clear kp kq
   by_cases hodd : k % 2 = 1
   ·obtain ⟨q, rfl⟩ : ∃ q, k = 2 * q + 1 := ⟨k / 2, by omega⟩
    have HC := Lib.hid (implThen_any m Fo Ao Fc Ac wr hm hm2 b1 b2 b3 b4)
    have HN := Lib.hid hP'.out.odd
    go_wp2_with fail
    refine HC.out.mono ?_
    rintro e w1 ⟨rfl, hb1⟩
    clear p0 p1 p2 c0 c1 c2
    have s0 := KP.out.belowS hb1
    have t0 := KQ.out.belowS hb1
    have n0 := Lib.hid (K0.out.belowS hb1)
    have hb1' := Lib.hid (HB.out.trans (hb1.mono hz))
    obtain ⟨w2, hw2⟩ : ∃ w2, w2 = put3 w1 (w.heap.size + 1 + 1) (.int .i64 (m : Int)) (.int .i64 (thF m Fo Fc : Nat)) (.int .i64 (thA m Ao Fc Ac : Nat)) := ⟨_, rfl⟩
    have S2 : Blk w2 (w.heap.size + 1 + 1) 27 _ := hw2 ▸ s0.set3 _ _ _
    have T2 : Blk w2 w.heap.size 27 _ := hw2 ▸ t0.oth3 _ _ _ (by omega)
    have N2 := Lib.hid (show Blk w2 (w.heap.size + 1) 27 _ from hw2 ▸ n0.out.oth3 _ _ _ (by omega))
    have B2 := Lib.hid (show Below w.heap.size w w2 from hw2 ▸ below_put3 hb1'.out (by omega) _ _ _)
    have HS2 := Lib.hid S2
    have HT2 := Lib.hid T2
    unfold put3 at hw2
    have HW2 := Lib.hid hw2
    have f0 := s0.frz 0
    have f1 := s0.frz 1
    have f2 := s0.frz 2
    have u0 := s0.at 0 (v := .int .i64 (m : Int)) rfl
    have u1 := s0.at 1 (v := .int .i64 (Fo : Int)) rfl
    have u2 := s0.at 2 (v := .int .i64 (Ao : Int)) rfl
    have c0 := t0.at 0 (v := .int .i64 (m : Int)) rfl
    have c1 := t0.at 1 (v := .int .i64 (Fc : Int)) rfl
    have c2 := t0.at 2 (v := .int .i64 (Ac : Int)) rfl
    have HC2 := Lib.hid (implThen_any m Fc Ac Fc Ac w2 hm hm2 b3 b4 b3 b4)
    clear S2 T2 hw2 s0 t0 hb1
    generalize thF m Fo Fc = Fo2 at *
    generalize thA m Ao Fc Ac = Ao2 at *
    generalize thF m Fc Fc = Fc2 at *
    generalize thA m Ac Fc Ac = Ac2 at *
    go_wp2_with fail
    rw [← HW2.out]
    refine HC2.out.mono ?_
    rintro e w3 ⟨rfl, hb3⟩
    clear c0 c1 c2 u0 u1 u2 f0 f1 f2
    have s3 := HS2.out.belowS hb3
    have t3 := HT2.out.belowS hb3
    have g0 := t3.frz 0
    have g1 := t3.frz 1
    have g2 := t3.frz 2
    have v0 := t3.at 0 (v := .int .i64 (m : Int)) rfl
    have v1 := t3.at 1 (v := .int .i64 (Fc : Int)) rfl
    have v2 := t3.at 2 (v := .int .i64 (Ac : Int)) rfl
    have HS3 := Lib.hid s3
    have HT3 := Lib.hid t3
    have HN3 := Lib.hid (N2.out.belowS hb3)
    have HB3 := Lib.hid (B2.out.trans (hb3.mono B2.out.size))
    clear s3 t3 hb3
    go_wp2
    go_roundw
    case rel => exact ⟨q, Fo2, Ao2, Fc2, Ac2, by omega, by go_num, HN.out, HN3.out.oth3 _ _ _ (by omega), HS3.out.oth3 _ _ _ (by omega), HT3.out.set3 _ _ _, below_put3 HB3.out (by omega) _ _ _⟩
    case measure => simp [intOf]; omega
   ·obtain ⟨q, rfl⟩ : ∃ q, k = 2 * q := ⟨k / 2, by omega⟩
    have HC2 := Lib.hid (implThen_any m Fc Ac Fc Ac wr hm hm2 b3 b4 b3 b4)
    have HN := Lib.hid hP'.out.even
    generalize thF m Fc Fc = Fc2 at *
    generalize thA m Ac Fc Ac = Ac2 at *
    go_wp2_with fail
    refine HC2.out.mono ?_
    rintro e w3 ⟨rfl, hb3⟩
    clear p0 p1 p2 c0 c1 c2
    have s3 := KP.out.belowS hb3
    have t3 := KQ.out.belowS hb3
    have g0 := t3.frz 0
    have g1 := t3.frz 1
    have g2 := t3.frz 2
    have v0 := t3.at 0 (v := .int .i64 (m : Int)) rfl
    have v1 := t3.at 1 (v := .int .i64 (Fc : Int)) rfl
    have v2 := t3.at 2 (v := .int .i64 (Ac : Int)) rfl
    have HS3 := Lib.hid s3
    have HT3 := Lib.hid t3
    have HN3 := Lib.hid (K0.out.belowS hb3)
    have HB3 := Lib.hid (HB.out.trans (hb3.mono hz))
    clear s3 t3 hb3
    go_wp2
    go_roundw
    case rel => exact ⟨q, Fo, Ao, Fc2, Ac2, by omega, by go_num, HN.out, HN3.out.oth3 _ _ _ (by omega), HS3.out.oth3 _ _ _ (by omega), HT3.out.set3 _ _ _, below_put3 HB3.out (by omega) _ _ _⟩
    case measure => simp [intOf]; omega
end Go.Proofs.YtgipnbeipfhekaaGreatDoor.Pow
namespace Go.Proofs.YtgipnbeipfhekaaGreatDoor.Skip
open Go.RowKit Go.Proofs.YtgipnbeipfhekaaGreatDoor Go.Proofs.YtgipnbeipfhekaaGreatDoor.Base Go.Proofs.YtgipnbeipfhekaaGreatDoor.Mem Go.Proofs.YtgipnbeipfhekaaGreatDoor.Reg Go.Proofs.YtgipnbeipfhekaaGreatDoor.Str Go.Proofs.YtgipnbeipfhekaaGreatDoor.Take Go.Proofs.YtgipnbeipfhekaaGreatDoor.Blk Go.Proofs.YtgipnbeipfhekaaGreatDoor.Pow
set_option linter.unusedVariables false
theorem natsN {K W T m f a s c : Int} (hB : streamB K W T m f a s = true) (hc : 0 ≤ c ∧ c ≤ 1000000000000000000) : ∃ X N : Nat, s = X ∧ c = N ∧ N ≤ 1000000000000000000 ∧
  ((K = 0 ∧ ∃ V A : Nat, W = V ∧ T = A ∧ V ≤ 16 ∧ A < 2 ^ V ∧ X < 2 ^ V) ∨ (K = 1 ∧ ∃ M F A : Nat, m = M ∧ f = F ∧ a = A ∧ 2 ≤ M ∧ M ≤ 100000 ∧ F < M ∧ A < M ∧ X < M)) := by
 rcases streamB_true hB with ⟨rfl, hR⟩ | ⟨rfl, hC⟩
 ·obtain ⟨h1, h2, h3, h4, h5, h6⟩ := Reg.bothR_true hR
  have ep : ((2 ^ W.toNat : Nat) : Int) = (2 : Int) ^ W.toNat := by simp
  exact ⟨s.toNat, c.toNat, by omega, by omega, by omega, .inl ⟨rfl, W.toNat, T.toNat, by omega, by omega, by omega, by omega, by omega⟩⟩
 ·obtain ⟨h1, h2, h3, h4, h5, h6, h7', h8⟩ := Cong.bothB_true hC
  exact ⟨s.toNat, c.toNat, by omega, by omega, by omega, .inr ⟨rfl, m.toNat, f.toNat, a.toNat, by omega, by omega, by omega, by omega, by omega, by omega, by omega, by omega⟩⟩
def SkipR (K W T m f a s c : Int) (w : World) (e : Ending) (w' : World) : Prop := e = .returned (.agg #[.int .i64 K, .int .i64 W, .int .i64 T, .int .i64 m, .int .i64 f, .int .i64 a, .int .i64 (takeX K W T m f a s c)]) ∧ Below w.heap.size w w'
theorem specJump_q (W T x n : Nat) (w : World) (hW : W ≤ 16) (hT : T < 2 ^ W) (hx : x < 2 ^ W) (hn : n ≤ 1000000000000000000) {y : Int} (hy : ((CycM.iter (nextR W T) x n : Nat) : Int) = y) :
  Calls Tryz.prog 129 #[.agg #[.int .i64 W, .int .i64 T], .int .i64 x, .int .i64 n] w fun e w' => e = .returned (.tuple #[.int .i64 y, .bool true]) ∧ Below w.heap.size w w' := by
 subst hy; exact Jump.specJump_yes W T x n w hW hT hx hn
def SkR (K W T m f a y : Int) (w : World) (e : Ending) (w' : World) : Prop := e = .returned (.agg #[.int .i64 K, .int .i64 W, .int .i64 T, .int .i64 m, .int .i64 f, .int .i64 a, .int .i64 y]) ∧ Below w.heap.size w w'
theorem two (w : World) (K W T m f a s : Int) : ∃ W1, W1 = (w.alloc (.cells #[.int .i64 K, .int .i64 W, .int .i64 T, .int .i64 m, .int .i64 f, .int .i64 a, .int .i64 s] 29)).alloc (.cells #[.int .i64 0, .int .i64 0, .int .i64 0, .int .i64 0, .int .i64 0, .int .i64 0, .int .i64 0] 29) ∧ SBox W1 w.heap.size K W T m f a s ∧ SBox W1 (w.heap.size + 1) 0 0 0 0 0 0 0 ∧ Below w.heap.size w W1 := by
 refine ⟨_, rfl, ?_, ?_, ((Below.refl _ _).alloc (Nat.le_refl _) _).alloc (by simp) _⟩
 ·exact (SBox.new w K W T m f a s).below ((Below.refl (w.heap.size + 1) _).alloc (by simp) (.cells #[.int .i64 0, .int .i64 0, .int .i64 0, .int .i64 0, .int .i64 0, .int .i64 0, .int .i64 0] 29)) (Nat.lt_succ_self _)
 ·have := SBox.new (w.alloc (.cells #[.int .i64 K, .int .i64 W, .int .i64 T, .int .i64 m, .int .i64 f, .int .i64 a, .int .i64 s] 29)) 0 0 0 0 0 0 0
  rw [World.size_alloc] at this
  exact this
theorem below_set7 {B b : Nat} {w0 w : World} (h : Below B w0 w) (hB : B ≤ b) (hs : B ≤ w.heap.size) (K W T m f a s : Int) : Below B w0 (set7 w b K W T m f a s) :=
 h.trans (grown_below (grown_set7 w b K W T m f a s) (fun g e => by cases e; exact hB) hs)
theorem SBox.other {w : World} {b : Nat} {K W T m f a s : Int} (h : SBox w b K W T m f a s) {p : Addr} (v : Value) (hne : p.block ≠ b) : SBox (w.setCell p v) b K W T m f a s := h.kept (Src.grown_setCell w p v) fun e => hne (Option.some.inj e)
set_option maxHeartbeats 1000000 in
set_option maxRecDepth 100000 in
theorem l11Skip_reg (W T x n m f a y : Int) (w : World) (HJ : Hid (∀ w, Calls Tryz.prog 129 #[.agg #[.int .i64 W, .int .i64 T], .int .i64 x, .int .i64 n] w fun e w' => e = .returned (.tuple #[.int .i64 y, .bool true]) ∧ Below w.heap.size w w')) :
  Calls Tryz.prog 80 #[.agg #[.int .i64 0, .int .i64 W, .int .i64 T, .int .i64 m, .int .i64 f, .int .i64 a, .int .i64 x], .int .i64 n] w (SkR 0 W T m f a y w) := by
 obtain ⟨W1, hW1, S, R, B⟩ := two w 0 W T m f a x
 have HW := Lib.hid hW1
 have HS := Lib.hid S
 have HR := Lib.hid R
 have HB := Lib.hid B
 clear hW1 S R B
 go_enter Tryz.func80, Tryz.ntmps80
 go_wp2_with fail
 rw [← HW.out]
 refine (HJ.out _).mono ?_
 rintro e w1 ⟨rfl, hb1⟩
 have t0 := HS.out.below hb1 HS.out.lt
 have r0 := HR.out.below hb1 HR.out.lt
 have c0 := (t0).c0; have c1 := (t0).c1; have c2 := (t0).c2; have c3 := (t0).c3; have c4 := (t0).c4; have c5 := (t0).c5; have c6 := (t0).c6
 have d0 := (r0).c0; have d1 := (r0).c1; have d2 := (r0).c2; have d3 := (r0).c3; have d4 := (r0).c4; have d5 := (r0).c5; have d6 := (r0).c6
 have g0 := (r0).frz 0; have g1 := (r0).frz 1; have g2 := (r0).frz 2; have g3 := (r0).frz 3; have g4 := (r0).frz 4; have g5 := (r0).frz 5; have g6 := (r0).frz 6
 have f6 := t0.frz 6
 have B1 := HB.out.trans (hb1.mono HB.out.size)
 have t1 := t0.set6 y
 have r1 := SBox.other r0 (p := ⟨w.heap.size, 6, none⟩) (.int .i64 y) (by simp)
 have S8 := r1.set7 0 W T m f a y
 have p0 := (S8).c0; have p1 := (S8).c1; have p2 := (S8).c2; have p3 := (S8).c3; have p4 := (S8).c4; have p5 := (S8).c5; have p6 := (S8).c6
 simp only [set7] at p0 p1 p2 p3 p4 p5 p6
 have hz1 := r0.lt
 have HB2 := Lib.hid (below_set7 (b := w.heap.size + 1) (B1.setCell (p := ⟨w.heap.size, 6, none⟩) (Nat.le_refl _) (.int .i64 y)) (Nat.le_succ _) (by simp; omega) 0 W T m f a y)
 clear S8 r1 t1 t0 r0 B1 hb1
 go_wp2
 exact bodyPost_ret (v := .agg #[.int .i64 0, .int .i64 W, .int .i64 T, .int .i64 m, .int .i64 f, .int .i64 a, .int .i64 y]) (by simp [results, Tryz.results80, go_sem, p0, p1, p2, p3, p4, p5, p6]) rfl ⟨rfl, HB2.out⟩
set_option maxHeartbeats 1000000 in
set_option maxRecDepth 100000 in
theorem l11Skip_con (m f a x n : Nat) (W T : Int) {y : Int} (w : World) (hm : 2 ≤ m) (hm2 : m ≤ 100000) (hf : f < m) (ha : a < m) (hx : x < m) (hn : n ≤ 1000000000000000000) (hy : ((CycM.iter (Cong.stepN m f a) x n : Nat) : Int) = y) :
  Calls Tryz.prog 80 #[.agg #[.int .i64 1, .int .i64 W, .int .i64 T, .int .i64 m, .int .i64 f, .int .i64 a, .int .i64 x], .int .i64 n] w (SkR 1 W T m f a y w) := by
 obtain ⟨W1, hW1, S, R, B⟩ := two w 1 W T m f a x
 have hp := powOf (f := f) (a := a) hm n
 have hy2 : ((Cong.stepN m (powF m f a n) (powA m f a n) x : Nat) : Int) = y := by rw [hp.2.2 x hx]; exact hy
 have HC := Lib.hid (l03Power_any w.heap.size 3 m f a n W1 S.c3 S.c4 S.c5 S.lt hm hm2 hf ha hn)
 have HW := Lib.hid hW1
 have HS := Lib.hid S
 have HR := Lib.hid R
 have HB := Lib.hid B
 obtain ⟨q1, q2, _⟩ := hp
 have HY := Lib.hid hy2
 unfold PowRet at HC
 generalize powF m f a n = F at *
 generalize powA m f a n = A at *
 clear hW1 S R B hy hy2
 go_enter Tryz.func80, Tryz.ntmps80
 go_wp2_with fail
 rw [← HW.out]
 refine HC.out.mono ?_
 rintro e w1 ⟨rfl, hb1⟩
 have t0 := HS.out.below hb1 HS.out.lt
 have r0 := HR.out.below hb1 HR.out.lt
 have hz1 := r0.lt
 have hne : (w.heap.size == w1.heap.size) = false := by simp; omega
 have hne' : ¬ w.heap.size = w1.heap.size := by omega
 have n0 : (w1.alloc (.cells #[.int .i64 (m : Int), .int .i64 (F : Int), .int .i64 (A : Int)] 27)).cell? ⟨w1.heap.size, 0, none⟩ = some (.int .i64 (m : Int)) := by simp
 have n1 : (w1.alloc (.cells #[.int .i64 (m : Int), .int .i64 (F : Int), .int .i64 (A : Int)] 27)).cell? ⟨w1.heap.size, 1, none⟩ = some (.int .i64 (F : Int)) := by simp
 have n2 : (w1.alloc (.cells #[.int .i64 (m : Int), .int .i64 (F : Int), .int .i64 (A : Int)] 27)).cell? ⟨w1.heap.size, 2, none⟩ = some (.int .i64 (A : Int)) := by simp
 have HC2 := Lib.hid (Cong.l03Step_any w1.heap.size 0 m F A x _ n0 n1 n2 hm hm2 q1 q2 hx)
 rw [HY.out] at HC2
 have t1 := t0.below ((Below.refl w1.heap.size w1).alloc (Nat.le_refl _) (.cells #[.int .i64 (m : Int), .int .i64 (F : Int), .int .i64 (A : Int)] 27)) t0.lt
 have r1 := r0.below ((Below.refl w1.heap.size w1).alloc (Nat.le_refl _) (.cells #[.int .i64 (m : Int), .int .i64 (F : Int), .int .i64 (A : Int)] 27)) r0.lt
 have B1 := (HB.out.trans (hb1.mono HB.out.size)).alloc (by omega) (.cells #[.int .i64 (m : Int), .int .i64 (F : Int), .int .i64 (A : Int)] 27)
 have z6' := t1.c6
 have T1 := Lib.hid t1
 have R1 := Lib.hid r1
 have HB1 := Lib.hid B1
 clear n0 n1 n2 t0 r0 t1 r1 B1 hb1
 go_wp2_with fail
 refine HC2.out.mono ?_
 rintro e w2 ⟨rfl, k2, hw2⟩
 have t2 : SBox w2 w.heap.size 1 W T m f a x := by rw [hw2]; exact T1.out
 have r2 : SBox w2 (w.heap.size + 1) 0 0 0 0 0 0 0 := by rw [hw2]; exact R1.out
 have B2 : Below w.heap.size w w2 := by rw [hw2]; exact below_drewN HB1.out k2
 have c0 := (t2).c0; have c1 := (t2).c1; have c2 := (t2).c2; have c3 := (t2).c3; have c4 := (t2).c4; have c5 := (t2).c5; have c6 := (t2).c6
 have d0 := (r2).c0; have d1 := (r2).c1; have d2 := (r2).c2; have d3 := (r2).c3; have d4 := (r2).c4; have d5 := (r2).c5; have d6 := (r2).c6
 have g0 := (r2).frz 0; have g1 := (r2).frz 1; have g2 := (r2).frz 2; have g3 := (r2).frz 3; have g4 := (r2).frz 4; have g5 := (r2).frz 5; have g6 := (r2).frz 6
 have f6 := t2.frz 6
 have r3 := SBox.other r2 (p := ⟨w.heap.size, 6, none⟩) (.int .i64 y) (by simp)
 have S8 := r3.set7 1 W T m f a y
 have p0 := (S8).c0; have p1 := (S8).c1; have p2 := (S8).c2; have p3 := (S8).c3; have p4 := (S8).c4; have p5 := (S8).c5; have p6 := (S8).c6
 simp only [set7] at p0 p1 p2 p3 p4 p5 p6
 have hz2 := r2.lt
 have HB2 := Lib.hid (below_set7 (b := w.heap.size + 1) (B2.setCell (p := ⟨w.heap.size, 6, none⟩) (Nat.le_refl _) (.int .i64 y)) (Nat.le_succ _) (by simp; omega) 1 W T m f a y)
 clear S8 r3 r2 t2 B2 hw2
 go_wp2
 exact bodyPost_ret (v := .agg #[.int .i64 1, .int .i64 W, .int .i64 T, .int .i64 m, .int .i64 f, .int .i64 a, .int .i64 y]) (by simp [results, Tryz.results80, go_sem, p0, p1, p2, p3, p4, p5, p6]) rfl ⟨rfl, HB2.out⟩
set_option maxHeartbeats 1000000 in
set_option maxRecDepth 100000 in
theorem implSkip_reg (W T x n m f a y : Int) (w : World) (HJ : Hid (∀ w, Calls Tryz.prog 71 #[.agg #[.int .i64 W, .int .i64 T], .int .i64 x, .int .i64 n] w fun e w' => e = .returned (.int .i64 y) ∧ Below w.heap.size w w')) :
  Calls Tryz.prog 33 #[.agg #[.int .i64 0, .int .i64 W, .int .i64 T, .int .i64 m, .int .i64 f, .int .i64 a, .int .i64 x], .int .i64 n] w (SkR 0 W T m f a y w) := by
 obtain ⟨W1, hW1, S, R, B⟩ := two w 0 W T m f a x
 have HW := Lib.hid hW1
 have HS := Lib.hid S
 have HR := Lib.hid R
 have HB := Lib.hid B
 clear hW1 S R B
 go_enter Tryz.func33, Tryz.ntmps33
 go_wp2_with fail
 rw [← HW.out]
 refine (HJ.out _).mono ?_
 rintro e w1 ⟨rfl, hb1⟩
 have t0 := HS.out.below hb1 HS.out.lt
 have r0 := HR.out.below hb1 HR.out.lt
 have c0 := (t0).c0; have c1 := (t0).c1; have c2 := (t0).c2; have c3 := (t0).c3; have c4 := (t0).c4; have c5 := (t0).c5; have c6 := (t0).c6
 have d0 := (r0).c0; have d1 := (r0).c1; have d2 := (r0).c2; have d3 := (r0).c3; have d4 := (r0).c4; have d5 := (r0).c5; have d6 := (r0).c6
 have g0 := (r0).frz 0; have g1 := (r0).frz 1; have g2 := (r0).frz 2; have g3 := (r0).frz 3; have g4 := (r0).frz 4; have g5 := (r0).frz 5; have g6 := (r0).frz 6
 have f6 := t0.frz 6
 have B1 := HB.out.trans (hb1.mono HB.out.size)
 have t1 := t0.set6 y
 have r1 := SBox.other r0 (p := ⟨w.heap.size, 6, none⟩) (.int .i64 y) (by simp)
 have S8 := r1.set7 0 W T m f a y
 have p0 := (S8).c0; have p1 := (S8).c1; have p2 := (S8).c2; have p3 := (S8).c3; have p4 := (S8).c4; have p5 := (S8).c5; have p6 := (S8).c6
 simp only [set7] at p0 p1 p2 p3 p4 p5 p6
 have hz1 := r0.lt
 have HB2 := Lib.hid (below_set7 (b := w.heap.size + 1) (B1.setCell (p := ⟨w.heap.size, 6, none⟩) (Nat.le_refl _) (.int .i64 y)) (Nat.le_succ _) (by simp; omega) 0 W T m f a y)
 clear S8 r1 t1 t0 r0 B1 hb1
 go_wp2
 exact bodyPost_ret (v := .agg #[.int .i64 0, .int .i64 W, .int .i64 T, .int .i64 m, .int .i64 f, .int .i64 a, .int .i64 y]) (by simp [results, Tryz.results33, go_sem, p0, p1, p2, p3, p4, p5, p6]) rfl ⟨rfl, HB2.out⟩
set_option maxHeartbeats 1000000 in
set_option maxRecDepth 100000 in
theorem implSkip_con (m f a x n : Nat) (W T : Int) {y : Int} (w : World) (hm : 2 ≤ m) (hm2 : m ≤ 100000) (hf : f < m) (ha : a < m) (hx : x < m) (hn : n ≤ 1000000000000000000) (hy : ((CycM.iter (Cong.stepN m f a) x n : Nat) : Int) = y) :
  Calls Tryz.prog 33 #[.agg #[.int .i64 1, .int .i64 W, .int .i64 T, .int .i64 m, .int .i64 f, .int .i64 a, .int .i64 x], .int .i64 n] w (SkR 1 W T m f a y w) := by
 obtain ⟨W1, hW1, S, R, B⟩ := two w 1 W T m f a x
 have hp := powOf (f := f) (a := a) hm n
 have hy2 : ((Cong.stepN m (powF m f a n) (powA m f a n) x : Nat) : Int) = y := by rw [hp.2.2 x hx]; exact hy
 have HC := Lib.hid (fun w => implPower_any m f a n w hm hm2 hf ha hn)
 have HC2 := Lib.hid (fun w => Cong.congStep_any m (powF m f a n) (powA m f a n) x w hm hm2 hp.1 hp.2.1 hx)
 rw [hy2] at HC2
 have HW := Lib.hid hW1
 have HS := Lib.hid S
 have HR := Lib.hid R
 have HB := Lib.hid B
 unfold PowRet at HC
 clear hp
 generalize powF m f a n = F at *
 generalize powA m f a n = A at *
 clear hW1 S R B hy hy2
 go_enter Tryz.func33, Tryz.ntmps33
 go_wp2_with fail
 rw [← HW.out]
 (refine Tail.wp_region_below_tail 8 (by kernel_rfl) (by kernel_rfl) ?_; simp only [List.take_succ_cons, List.take_zero, List.drop_succ_cons, List.drop_zero]; (repeat (first | go_big_quiet_skip | (go_big_quiet_want; go_big_quiet_op; first | go_big_quiet_on | (refine ⟨_, fun _ _ => rfl, ?_⟩; go_big_quiet_on) | (apply Exists.intro; refine ⟨fun wq hq => ?_, ?_⟩; (have c3 := (HS.out.below hq HS.out.lt).c3; have c4 := (HS.out.below hq HS.out.lt).c4; have c5 := (HS.out.below hq HS.out.lt).c5; have c6 := (HS.out.below hq HS.out.lt).c6; first | (go_simp; done) | (go_simp; rfl) | (first | (go_at_call 72; refine (HC.out _).mono ?_; rintro e w1 ⟨rfl, hb1⟩; exact ⟨rfl, Base.Below.nextA hq hb1⟩) | (go_at_call 69; refine (HC2.out _).mono ?_; rintro e w1 ⟨rfl, hb1⟩; exact ⟨rfl, Base.Below.nextA hq hb1⟩))); go_big_quiet_on)))); refine wpQuiet_nil ?_; intro wq hq)
 have t2 := HS.out.below hq HS.out.lt
 have r2 := HR.out.below hq HR.out.lt
 have B2 := HB.out.trans (hq.mono HB.out.size)
 have c0 := (t2).c0; have c1 := (t2).c1; have c2 := (t2).c2; have c3 := (t2).c3; have c4 := (t2).c4; have c5 := (t2).c5; have c6 := (t2).c6
 have d0 := (r2).c0; have d1 := (r2).c1; have d2 := (r2).c2; have d3 := (r2).c3; have d4 := (r2).c4; have d5 := (r2).c5; have d6 := (r2).c6
 have g0 := (r2).frz 0; have g1 := (r2).frz 1; have g2 := (r2).frz 2; have g3 := (r2).frz 3; have g4 := (r2).frz 4; have g5 := (r2).frz 5; have g6 := (r2).frz 6
 have f6 := t2.frz 6
 have r3 := SBox.other r2 (p := ⟨w.heap.size, 6, none⟩) (.int .i64 y) (by simp)
 have S8 := r3.set7 1 W T m f a y
 have p0 := (S8).c0; have p1 := (S8).c1; have p2 := (S8).c2; have p3 := (S8).c3; have p4 := (S8).c4; have p5 := (S8).c5; have p6 := (S8).c6
 simp only [set7] at p0 p1 p2 p3 p4 p5 p6
 have hz2 := r2.lt
 have HB2 := Lib.hid (below_set7 (b := w.heap.size + 1) (B2.setCell (p := ⟨w.heap.size, 6, none⟩) (Nat.le_refl _) (.int .i64 y)) (Nat.le_succ _) (by simp; omega) 1 W T m f a y)
 clear S8 r3 r2 t2 B2 hq
 go_wp2
 exact bodyPost_ret (v := .agg #[.int .i64 1, .int .i64 W, .int .i64 T, .int .i64 m, .int .i64 f, .int .i64 a, .int .i64 y]) (by simp [results, Tryz.results33, go_sem, p0, p1, p2, p3, p4, p5, p6]) rfl ⟨rfl, HB2.out⟩
theorem takeX_r (V A X N : Nat) (m f a : Int) : takeX 0 V A m f a X N = ((CycM.iter (nextR V A) X N : Nat) : Int) := by simp [takeX]
theorem takeX_c (M F A X N : Nat) (W T : Int) : takeX 1 W T M F A X N = ((CycM.iter (Cong.stepN M F A) X N : Nat) : Int) := by simp [takeX]
theorem specSkip_yes {K W T m f a s c : Int} (hB : streamB K W T m f a s = true) (hc : 0 ≤ c ∧ c ≤ 1000000000000000000) (w : World) : Calls Tryz.prog 80 #[.agg #[.int .i64 K, .int .i64 W, .int .i64 T, .int .i64 m, .int .i64 f, .int .i64 a, .int .i64 s], .int .i64 c] w (SkipR K W T m f a s c w) := by
 obtain ⟨X, N, rfl, rfl, hN, ⟨rfl, V, A, rfl, rfl, hV, hA, hX⟩ | ⟨rfl, M, F, A, rfl, rfl, rfl, h1, h2, h3, h4, h5⟩⟩ := natsN hB hc
 ·exact l11Skip_reg V A X N m f a _ w (Lib.hid fun w => specJump_q V A X N w hV hA hX hN (takeX_r V A X N m f a).symm)
 ·exact l11Skip_con M F A X N W T w h1 h2 h3 h4 h5 hN (takeX_c M F A X N W T).symm
theorem implSkip_yes {K W T m f a s c : Int} (hB : streamB K W T m f a s = true) (hc : 0 ≤ c ∧ c ≤ 1000000000000000000) (w : World) : Calls Tryz.prog 33 #[.agg #[.int .i64 K, .int .i64 W, .int .i64 T, .int .i64 m, .int .i64 f, .int .i64 a, .int .i64 s], .int .i64 c] w (SkipR K W T m f a s c w) := by
 obtain ⟨X, N, rfl, rfl, hN, ⟨rfl, V, A, rfl, rfl, hV, hA, hX⟩ | ⟨rfl, M, F, A, rfl, rfl, rfl, h1, h2, h3, h4, h5⟩⟩ := natsN hB hc
 ·exact implSkip_reg V A X N m f a _ w (Lib.hid fun w => by rw [takeX_r]; exact Jump.jumpR_any V A X N w hV hA hX hN)
 ·exact implSkip_con M F A X N W T w h1 h2 h3 h4 h5 hN (takeX_c M F A X N W T).symm
end Go.Proofs.YtgipnbeipfhekaaGreatDoor.Skip
namespace Go.Proofs.YtgipnbeipfhekaaGreatDoor.Skip
open Go.RowKit Go.Proofs.YtgipnbeipfhekaaGreatDoor Go.Proofs.YtgipnbeipfhekaaGreatDoor.Base Go.Proofs.YtgipnbeipfhekaaGreatDoor.Mem Go.Proofs.YtgipnbeipfhekaaGreatDoor.Reg Go.Proofs.YtgipnbeipfhekaaGreatDoor.Str Go.Proofs.YtgipnbeipfhekaaGreatDoor.Take Go.Proofs.YtgipnbeipfhekaaGreatDoor.Blk Go.Proofs.YtgipnbeipfhekaaGreatDoor.Pow
set_option linter.unusedVariables false
def okS (K W T m f a s c : Int) : Bool := streamB K W T m f a s && inR c 0 1000000000000000000
def SSRet (K W T m f a s c : Int) (w : World) (e : Ending) (w' : World) : Prop :=
 (okS K W T m f a s c = true → e = .returned (.tuple #[.agg #[.int .i64 K, .int .i64 W, .int .i64 T, .int .i64 m, .int .i64 f, .int .i64 a, .int .i64 (takeX K W T m f a s c)], .bool true])) ∧
 (okS K W T m f a s c = false → e = .returned (.tuple #[.agg #[.int .i64 0, .int .i64 0, .int .i64 0, .int .i64 0, .int .i64 0, .int .i64 0, .int .i64 0], .bool false])) ∧ Below w.heap.size w w'
theorem SSRet.no {K W T m f a s c : Int} {w w' : World} {e : Ending} (h : okS K W T m f a s c = false) (he : e = .returned (.tuple #[.agg #[.int .i64 0, .int .i64 0, .int .i64 0, .int .i64 0, .int .i64 0, .int .i64 0, .int .i64 0], .bool false])) (hb : Below w.heap.size w w') : SSRet K W T m f a s c w e w' :=
 ⟨fun h2 => (by rw [h] at h2; cases h2), fun _ => he, hb⟩
theorem SSRet.yes {K W T m f a s c : Int} {w w' : World} {e : Ending} (h : okS K W T m f a s c = true) (he : e = .returned (.tuple #[.agg #[.int .i64 K, .int .i64 W, .int .i64 T, .int .i64 m, .int .i64 f, .int .i64 a, .int .i64 (takeX K W T m f a s c)], .bool true])) (hb : Below w.heap.size w w') : SSRet K W T m f a s c w e w' :=
 ⟨fun _ => he, fun h2 => (by rw [h] at h2; cases h2), hb⟩
set_option maxHeartbeats 1000000 in
set_option maxRecDepth 100000 in
theorem implSS_any (K W T m f a s c : Int) (w : World) : Calls Tryz.prog 10 #[.agg #[.int .i64 K, .int .i64 W, .int .i64 T, .int .i64 m, .int .i64 f, .int .i64 a, .int .i64 s], .int .i64 c] w (SSRet K W T m f a s c w) := by
 obtain ⟨W1, hW1, S, R, B⟩ := two w K W T m f a s
 have HW := Lib.hid hW1
 have HS := Lib.hid S
 have HR := Lib.hid R
 have HB1 := Lib.hid B
 clear hW1
 cases hB : streamB K W T m f a s with
 | false =>
  have HN := Lib.hid (fun e w' => SSRet.no (w := w) (w' := w') (e := e) (show okS K W T m f a s c = false by simp [okS, hB]))
  have HI := Lib.hid (validStream_any K W T m f a s W1)
  rw [hB] at HI
  clear hB S R B
  go_enter Tryz.func10, Tryz.ntmps10
  go_wp2_with fail
  rw [← HW.out]
  refine HI.out.mono ?_
  rintro e w1 ⟨rfl, B1⟩
  have r0 := HR.out.below B1 HR.out.lt
  have d0 := (r0).c0; have d1 := (r0).c1; have d2 := (r0).c2; have d3 := (r0).c3; have d4 := (r0).c4; have d5 := (r0).c5; have d6 := (r0).c6
  have g0 := (r0).frz 0; have g1 := (r0).frz 1; have g2 := (r0).frz 2; have g3 := (r0).frz 3; have g4 := (r0).frz 4; have g5 := (r0).frz 5; have g6 := (r0).frz 6
  have S8 := r0.set7 0 0 0 0 0 0 0
  have p0 := (S8).c0; have p1 := (S8).c1; have p2 := (S8).c2; have p3 := (S8).c3; have p4 := (S8).c4; have p5 := (S8).c5; have p6 := (S8).c6
  simp only [set7] at p0 p1 p2 p3 p4 p5 p6
  have HB2 := Lib.hid (below_set7 (b := w.heap.size + 1) (HB1.out.trans (B1.mono HB1.out.size)) (Nat.le_succ _) (Nat.le_trans HB1.out.size B1.size) 0 0 0 0 0 0 0)
  clear S8 r0 B1
  go_wp2
  exact bodyPost_ret (v := .tuple #[.agg #[.int .i64 0, .int .i64 0, .int .i64 0, .int .i64 0, .int .i64 0, .int .i64 0, .int .i64 0], .bool false]) (by simp [results, Tryz.results10, go_sem, p0, p1, p2, p3, p4, p5, p6]) rfl (HN.out _ _ rfl HB2.out)
 | true =>
  have HI := Lib.hid (validStream_any K W T m f a s W1)
  rw [hB] at HI
  clear S R B
  cases hc : inR c 0 1000000000000000000 with
  | false =>
   have HN := Lib.hid (fun e w' => SSRet.no (w := w) (w' := w') (e := e) (show okS K W T m f a s c = false by simp [okS, hB, hc]))
   have HC := Lib.hid (fun w => inRange_any c 0 1000000000000000000 w)
   rw [hc] at HC
   clear hB hc
   go_enter Tryz.func10, Tryz.ntmps10
   go_wp2_with fail
   rw [← HW.out]
   refine HI.out.mono ?_
   rintro e w1 ⟨rfl, B1⟩
   have r0 := HR.out.below B1 HR.out.lt
   have d0 := (r0).c0; have d1 := (r0).c1; have d2 := (r0).c2; have d3 := (r0).c3; have d4 := (r0).c4; have d5 := (r0).c5; have d6 := (r0).c6
   have g0 := (r0).frz 0; have g1 := (r0).frz 1; have g2 := (r0).frz 2; have g3 := (r0).frz 3; have g4 := (r0).frz 4; have g5 := (r0).frz 5; have g6 := (r0).frz 6
   have S8 := r0.set7 0 0 0 0 0 0 0
   have p0 := (S8).c0; have p1 := (S8).c1; have p2 := (S8).c2; have p3 := (S8).c3; have p4 := (S8).c4; have p5 := (S8).c5; have p6 := (S8).c6
   simp only [set7] at p0 p1 p2 p3 p4 p5 p6
   have HB2 := Lib.hid (below_set7 (b := w.heap.size + 1) (HB1.out.trans (B1.mono HB1.out.size)) (Nat.le_succ _) (Nat.le_trans HB1.out.size B1.size) 0 0 0 0 0 0 0)
   clear S8 r0 B1
   go_wp2_with fail
   refine (HC.out _).mono ?_
   rintro e w' ⟨rfl, rfl⟩
   go_wp2
   exact bodyPost_ret (v := .tuple #[.agg #[.int .i64 0, .int .i64 0, .int .i64 0, .int .i64 0, .int .i64 0, .int .i64 0, .int .i64 0], .bool false]) (by simp [results, Tryz.results10, go_sem, p0, p1, p2, p3, p4, p5, p6]) rfl (HN.out _ _ rfl HB2.out)
  | true =>
   have HY := Lib.hid (fun e w' => SSRet.yes (w := w) (w' := w') (e := e) (show okS K W T m f a s c = true by simp [okS, hB, hc]))
   have HC := Lib.hid (fun w => inRange_any c 0 1000000000000000000 w)
   rw [hc] at HC
   have HT := Lib.hid (fun w => implSkip_yes hB (by simpa using inR_true hc) w)
   clear hB hc
   unfold SkipR at HT
   generalize takeX K W T m f a s c = x at *
   go_enter Tryz.func10, Tryz.ntmps10
   go_wp2_with fail
   rw [← HW.out]
   refine HI.out.mono ?_
   rintro e w1 ⟨rfl, B1⟩
   have t0 := HS.out.below B1 HS.out.lt
   have c0 := (t0).c0; have c1 := (t0).c1; have c2 := (t0).c2; have c3 := (t0).c3; have c4 := (t0).c4; have c5 := (t0).c5; have c6 := (t0).c6
   have HR1 := Lib.hid (HR.out.below B1 HR.out.lt)
   have HB2 := Lib.hid (HB1.out.trans (B1.mono HB1.out.size))
   clear t0 B1
   go_wp2_with fail
   refine (HC.out _).mono ?_
   rintro e w' ⟨rfl, rfl⟩
   go_wp2_with fail
   refine (HT.out _).mono ?_
   rintro e w2 ⟨rfl, hb2⟩
   have r0 := HR1.out.below hb2 HR1.out.lt
   have d0 := (r0).c0; have d1 := (r0).c1; have d2 := (r0).c2; have d3 := (r0).c3; have d4 := (r0).c4; have d5 := (r0).c5; have d6 := (r0).c6
   have g0 := (r0).frz 0; have g1 := (r0).frz 1; have g2 := (r0).frz 2; have g3 := (r0).frz 3; have g4 := (r0).frz 4; have g5 := (r0).frz 5; have g6 := (r0).frz 6
   have S8 := r0.set7 K W T m f a x
   have p0 := (S8).c0; have p1 := (S8).c1; have p2 := (S8).c2; have p3 := (S8).c3; have p4 := (S8).c4; have p5 := (S8).c5; have p6 := (S8).c6
   simp only [set7] at p0 p1 p2 p3 p4 p5 p6
   have HB3 := Lib.hid (below_set7 (b := w.heap.size + 1) (HB2.out.trans (hb2.mono HB2.out.size)) (Nat.le_succ _) (Nat.le_trans HB2.out.size hb2.size) K W T m f a x)
   clear S8 r0 hb2 c0 c1 c2 c3 c4 c5 c6
   go_wp2
   exact bodyPost_ret (v := .tuple #[.agg #[.int .i64 K, .int .i64 W, .int .i64 T, .int .i64 m, .int .i64 f, .int .i64 a, .int .i64 x], .bool true]) (by simp [results, Tryz.results10, go_sem, p0, p1, p2, p3, p4, p5, p6]) rfl (HY.out _ _ rfl HB3.out)
end Go.Proofs.YtgipnbeipfhekaaGreatDoor.Skip
namespace Go.Proofs.YtgipnbeipfhekaaGreatDoor.StTx
open Go.RowKit Go.Proofs.YtgipnbeipfhekaaGreatDoor Go.Proofs.YtgipnbeipfhekaaGreatDoor.Base Go.Proofs.YtgipnbeipfhekaaGreatDoor.Mem Go.Proofs.YtgipnbeipfhekaaGreatDoor.Dec Go.Proofs.YtgipnbeipfhekaaGreatDoor.Str Go.Proofs.YtgipnbeipfhekaaGreatDoor.Take
set_option linter.unusedVariables false
def nAt (xs : List Int) (i : Nat) : Nat := (xs.getD i 0).toNat
def joinTo (l : List UInt8) (xs : List Int) : Nat → List UInt8
 | 0 => l
 | i + 1 => joinTo l xs i ++ ([58] ++ Lib.decDigits (nAt xs i))
theorem decS_len {u : Nat} (h : u < 1000000) : (Lib.decDigits u).length ≤ 6 := by
 by_cases h0 : u = 0
 ·subst h0; rw [Lib.decDigits_one (by decide)]; simp
 ·rw [← rd_rev u (by omega), List.length_reverse]
  exact rd_len 6 u h
def Fit (xs : List Int) : Prop := xs.length ≤ 4 ∧ ∀ i, i < xs.length → 0 ≤ xs.getD i 0 ∧ xs.getD i 0 < 1000000
theorem joinTo_len {xs : List Int} (h : Fit xs) (l : List UInt8) : ∀ i, i ≤ xs.length → (joinTo l xs i).length ≤ l.length + 7 * i
 | 0, _ => Nat.le_refl _
 | i + 1, hi => by
  have h1 := joinTo_len h l i (by omega)
  have h2 := h.2 i (by omega)
  have h3 := decS_len (u := nAt xs i) (by unfold nAt; omega)
  rw [joinTo, List.length_append, List.length_append]
  simp only [List.length_cons, List.length_nil]
  omega
theorem strAddS {a b c : ByteArray} (h : a ++ b = c) (hs : a.size + b.size ≤ 9223372036854775807) (w : World) : (Op.stringOp .add a b).run Tryz.prog w = .ok (.string c) w := by
 rw [run_string_add_sum w a b (by omega), h]
theorem joinStep {xs : List Int} (h : Fit xs) (l : List UInt8) (hl : l.length ≤ 1) (k : Nat) (hk : k < xs.length) : ∃ (u : Nat) (d o a1 a2 : ByteArray), xs.getD k 0 = (u : Int) ∧ u < 1000000 ∧ tx (Lib.decDigits u) = d ∧ tx (joinTo l xs k) = o ∧
  (∀ w : World, (Op.stringOp .add ⟨#[58]⟩ d).run Tryz.prog w = .ok (.string a1) w) ∧ (∀ w : World, (Op.stringOp .add o a1).run Tryz.prog w = .ok (.string a2) w) ∧ tx (joinTo l xs (k + 1)) = a2 := by
 have h2 := h.2 k hk
 have hj := joinTo_len h l k (by omega)
 have hx4 := h.1
 obtain ⟨u, hu⟩ := Int.eq_ofNat_of_zero_le h2.1
 have hu6 : u < 1000000 := by omega
 have h3 := decS_len hu6
 have hn : nAt xs k = u := by rw [nAt, hu]; rfl
 refine ⟨u, _, _, (⟨#[58]⟩ : ByteArray) ++ tx (Lib.decDigits u), _, hu, hu6, rfl, rfl, strAddS rfl ?_, strAddS rfl ?_, ?_⟩
 ·have := size_tx (Lib.decDigits u); show 1 + _ ≤ _; omega
 ·have h8 := size_tx (Lib.decDigits u)
  have h9 := size_tx (joinTo l xs k)
  rw [ByteArray.size_append]; show _ + (1 + _) ≤ _; omega
 ·apply tx_ext
  rw [joinTo, hn]
  simp
theorem rd3 (w0 : World) (x y z : Int) : RdI (w0.alloc (.cells #[.int .i64 x, .int .i64 y, .int .i64 z] 2)) (w0.alloc (.cells #[.int .i64 x, .int .i64 y, .int .i64 z] 2)).heap.size (some ⟨w0.heap.size, 0, none⟩) [x, y, z] := fun _ =>
 ⟨_, 0, rfl, by simp, fun i hi => by
  rw [Nat.zero_add, World.cell?_alloc_new w0 _ _ i]
  match i, hi with
  | 0, _ => rfl
  | 1, _ => rfl
  | 2, _ => rfl
  | i + 3, h => exact absurd h (by simp)⟩
theorem rd4 (w0 : World) (x y z u : Int) : RdI (w0.alloc (.cells #[.int .i64 x, .int .i64 y, .int .i64 z, .int .i64 u] 2)) (w0.alloc (.cells #[.int .i64 x, .int .i64 y, .int .i64 z, .int .i64 u] 2)).heap.size (some ⟨w0.heap.size, 0, none⟩) [x, y, z, u] := fun _ =>
 ⟨_, 0, rfl, by simp, fun i hi => by
  rw [Nat.zero_add, World.cell?_alloc_new w0 _ _ i]
  match i, hi with
  | 0, _ => rfl
  | 1, _ => rfl
  | 2, _ => rfl
  | 3, _ => rfl
  | i + 4, h => exact absurd h (by simp)⟩
def textS (K W T m f a s : Int) : List UInt8 := if K = 0 then joinTo [114] [W, T, s] 3 else joinTo [99] [m, f, a, s] 4
theorem fit3 {W T s : Int} (h : Reg.bothR W T s = true) : Fit [W, T, s] := by
 obtain ⟨h1, h2, h3, h4, h5, h6⟩ := Reg.bothR_true h
 have hp : (2 : Int) ^ W.toNat ≤ 2 ^ 16 := by
  have : 2 ^ W.toNat ≤ 2 ^ 16 := Nat.pow_le_pow_right (by decide) (by omega)
  have h7 : ((2 ^ W.toNat : Nat) : Int) ≤ ((2 ^ 16 : Nat) : Int) := Int.ofNat_le.2 this
  simpa using h7
 refine ⟨by simp, fun i hi => ?_⟩
 match i, hi with
 | 0, _ => show 0 ≤ W ∧ W < 1000000; omega
 | 1, _ => show 0 ≤ T ∧ T < 1000000; omega
 | 2, _ => show 0 ≤ s ∧ s < 1000000; omega
 | i + 3, h => exact absurd h (by simp)
theorem fit4 {m f a s : Int} (h : Cong.bothB m f a s = true) : Fit [m, f, a, s] := by
 obtain ⟨h1, h2, h3, h4, h5, h6, h7, h8⟩ := Cong.bothB_true h
 refine ⟨by simp, fun i hi => ?_⟩
 match i, hi with
 | 0, _ => show 0 ≤ m ∧ m < 1000000; omega
 | 1, _ => show 0 ≤ f ∧ f < 1000000; omega
 | 2, _ => show 0 ≤ a ∧ a < 1000000; omega
 | 3, _ => show 0 ≤ s ∧ s < 1000000; omega
 | i + 4, h => exact absurd h (by simp)
def TxRet (K W T m f a s : Int) (w : World) (e : Ending) (w' : World) : Prop := e = .returned (.tuple #[.string (if streamB K W T m f a s = true then tx (textS K W T m f a s) else { data := #[] }), .bool (streamB K W T m f a s)]) ∧ Below w.heap.size w w'
end Go.Proofs.YtgipnbeipfhekaaGreatDoor.StTx

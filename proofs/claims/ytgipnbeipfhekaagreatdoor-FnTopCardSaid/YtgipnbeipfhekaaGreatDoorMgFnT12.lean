/- A region that draws its order, whose last stores write what its loads read: the loads may be taken first, if every late operation waits for them. -/
import Derived.Test.YtgipnbeipfhekaaGreatDoorMgFnT00
import Derived.StillTail
import Derived.Deep.RegionHeld
import Derived.Test.YtgipnbeipfhekaaGreatDoorMgFnT11
import Derived.Deep.Cut
namespace Go.Proofs.YtgipnbeipfhekaaGreatDoor.Late
open Go.RowKit Go.Proofs.YtgipnbeipfhekaaGreatDoor Go.Proofs.YtgipnbeipfhekaaGreatDoor.Base
set_option linter.unusedVariables false
section
variable {P : Program} {ops : Array Oper} {Q : Exit → Act → World → Prop} {md : Region.Mode} {S : World → Prop} {late : List Nat}
def wpT (P : Program) (md : Region.Mode) (ops : Array Oper) (Q : Exit → Act → World → Prop) (S : World → Prop) (late : List Nat) : Nat → Array Bool → Act → World → Prop
 | 0, listed, a, w => Region.ready md ops listed = [] ∧ Q .normal a w
 | fuel + 1, listed, a, w =>
  (Region.ready md ops listed = [] → Q .normal a w) ∧
  ∀ i ∈ Region.ready md ops listed, wpOp P ops Q i (fun a' w' => (late.contains i = false → S w') ∧ wpT P md ops Q S late fuel (listed.setIfInBounds i true) a' w') a w
theorem wpAny_of : ∀ (fuel : Nat) (listed : Array Bool) (a : Act) (w : World), wpT P md ops Q S late fuel listed a w → wpAny P md ops Q fuel listed a w
 | 0, _, _, _, h => h
 | fuel + 1, _, _, _, h => ⟨h.1, fun i hi => wpOp_mono (fun a' w' h' => wpAny_of fuel _ a' w' h'.2) (h.2 i hi)⟩
def reach (md : Region.Mode) (ops : Array Oper) (i : Nat) : Nat → Nat → Bool
 | 0, _ => false
 | f + 1, j => Region.waitsFor md ops j i || (List.range ops.size).any fun m => Region.waitsFor md ops j m && reach md ops i f m
def waitB (md : Region.Mode) (ops : Array Oper) (late : List Nat) (i : Nat) : Bool := late.all fun j => reach md ops i 7 j
def Closed (md : Region.Mode) (ops : Array Oper) (listed : Array Bool) : Prop := ∀ j oj, ops[j]? = some oj → listed.getD j false = true → ∀ e ∈ oj.after, Region.binds md e = true → listed.getD e.on false = true
def closedB (md : Region.Mode) (ops : Array Oper) (listed : Array Bool) : Bool := (List.range ops.size).all fun j => !listed.getD j false || match ops[j]? with
 | some oj => oj.after.all fun e => !Region.binds md e || listed.getD e.on false
 | none => true
theorem closed_spec {listed : Array Bool} (h : closedB md ops listed = true) : Closed md ops listed := fun j oj hj hl e he hb => by
 have h1 := List.all_eq_true.1 h j (List.mem_range.2 (Array.getElem?_eq_some_iff.1 hj).1)
 simp only [hj, hl, Bool.not_true, Bool.false_or] at h1
 have h2 := Array.all_eq_true_iff_forall_mem.1 h1 e he
 simpa [hb] using h2
theorem Closed.set {listed : Array Bool} {i : Nat} (h : Closed md ops listed) (hi : i ∈ Region.ready md ops listed) : Closed md ops (listed.setIfInBounds i true) := fun j oj hj hl e he hb => by
 obtain ⟨_, oi, hoi, hall⟩ := mem_ready.1 hi
 by_cases hij : i = j
 ·subst hij
  obtain rfl : oj = oi := Option.some.inj (hj.symm.trans hoi)
  exact getD_set_true (hall e he hb)
 ·rw [getD_set_ne false hij] at hl
  exact getD_set_true (h j oj hj hl e he hb)
theorem reach_listed {listed : Array Bool} {i : Nat} (hc : Closed md ops listed) : ∀ (f j : Nat) (oj : Oper), ops[j]? = some oj → reach md ops i f j = true → (∀ e ∈ oj.after, Region.binds md e = true → listed.getD e.on false = true) → listed.getD i false = true
 | 0, _, _, _, h, _ => by cases h
 | f + 1, j, oj, hj, h, hall => by
  have use : ∀ m, Region.waitsFor md ops j m = true → listed.getD m false = true := fun m hm => by
   obtain ⟨oj', hoj', e, he, hb, hon⟩ := Region.waitsFor_spec hm
   obtain rfl : oj' = oj := Option.some.inj (hoj'.symm.trans hj)
   rw [← hon]; exact hall e he hb
  simp only [reach, Bool.or_eq_true] at h
  rcases h with h | h
  ·exact use i h
  ·obtain ⟨m, hm, h2⟩ := List.any_eq_true.1 h
   simp only [Bool.and_eq_true] at h2
   have hlt := List.mem_range.1 hm
   have hmo : ops[m]? = some ops[m] := by simp [hlt]
   exact reach_listed hc f m _ hmo h2.2 (hc m _ hmo (use m h2.1))
theorem first {i : Nat} {oi : Oper} {v : Value} (hi : ops[i]? = some oi) (hsel : ∀ (j : Nat) (o : Oper) cs b, ops[j]? = some o → o.op ≠ .select cs b)
  (hQ : ∀ c a w, Q (.panic c) (a.put oi.dst v) w → Q (.panic c) a w) (hl : waitB md ops late i = true) :
  ∀ (fuel : Nat) (listed : Array Bool) (a : Act) (w : World),
   (∀ j oj, ops[j]? = some oj → j ≠ i → listed.getD j true = false → (∀ e ∈ oj.after, Region.binds md e = true → e.on ≠ i) → oi.apart ops oj = true) →
   i ∈ Region.ready md ops listed → Closed md ops listed → YieldsIf P ops S oi v a → S w →
   wpT P md ops Q S late fuel (listed.setIfInBounds i true) (a.put oi.dst v) w → wpT P md ops Q S late (fuel + 1) listed a w := by
 intro fuel
 induction fuel with
 | zero =>
  intro listed a w _ hr _ hy hS H
  refine ⟨fun h => (by rw [h] at hr; cases hr), fun j hj => ?_⟩
  by_cases hji : j = i
  ·subst hji; exact hy.wpOp hi hS ⟨fun _ => hS, H⟩
  ·have := ready_mono hj hji
   rw [H.1] at this
   cases this
 | succ fuel ih =>
  intro listed a w hfree hr hcl hy hS H
  refine ⟨fun h => (by rw [h] at hr; cases hr), fun j hj => ?_⟩
  by_cases hji : j = i
  ·subst hji; exact hy.wpOp hi hS ⟨fun _ => hS, H⟩
  ·have h1 := H.2 j (ready_mono hj hji)
   obtain ⟨hjun, oj, hoj, hall⟩ := mem_ready.1 hj
   have hun := getD_both (mem_ready.1 hr).1
   have hnot : ∀ e ∈ oj.after, Region.binds md e = true → e.on ≠ i := fun e he hb heq => by
    have h2 := hall e he hb
    rw [heq, hun] at h2
    cases h2
   have hjl : late.contains j = false := by
    cases hc : late.contains j with
    | false => rfl
    | true =>
     have h3 := List.all_eq_true.1 hl j (by simpa using hc)
     have h4 := reach_listed hcl 7 j oj hoj h3 hall
     rw [hun] at h4
     cases h4
   have h2 := wpOp_putIf hoj (hfree j oj hoj hji hjun hnot) (fun cs b => hsel i oi cs b hi) (fun cs b => hsel j oj cs b hoj) hQ hy h1
   have hfree' : ∀ k ok, ops[k]? = some ok → k ≠ i → (listed.setIfInBounds j true).getD k true = false →
     (∀ e ∈ ok.after, Region.binds md e = true → e.on ≠ i) → oi.apart ops ok = true := fun k ok hk hki hu hno => by
    refine hfree k ok hk hki ?_ hno
    by_cases hjk : j = k
    ·subst hjk; exact hjun
    ·rw [getD_set_ne true hjk] at hu; exact hu
   refine wpOp_mono (fun a' w' h3 => ⟨fun _ => h3.2.1 hjl, ih (listed.setIfInBounds j true) a' w' hfree' (ready_mono hr (Ne.symm hji)) (hcl.set hj) h3.1 (h3.2.1 hjl) ?_⟩) h2
   rw [Array.setIfInBounds_comm _ _ hji]
   exact h3.2.2
theorem firstP {i : Nat} {oi : Oper} {v : Value} (hi : ops[i]? = some oi) (hsel : ∀ (j : Nat) (o : Oper) cs b, ops[j]? = some o → o.op ≠ .select cs b)
  (hQ : ∀ c a w, Q (.panic c) (a.put oi.dst v) w → Q (.panic c) a w) (hl : late.contains i = true) :
  ∀ (fuel : Nat) (listed : Array Bool) (a : Act) (w : World),
   (∀ j oj, ops[j]? = some oj → j ≠ i → listed.getD j true = false → (∀ e ∈ oj.after, Region.binds md e = true → e.on ≠ i) → oi.apart ops oj = true) →
   i ∈ Region.ready md ops listed → Yields P ops oi v a →
   wpT P md ops Q S late fuel (listed.setIfInBounds i true) (a.put oi.dst v) w → wpT P md ops Q S late (fuel + 1) listed a w := by
 intro fuel
 induction fuel with
 | zero =>
  intro listed a w _ hr hy H
  refine ⟨fun h => (by rw [h] at hr; cases hr), fun j hj => ?_⟩
  by_cases hji : j = i
  ·subst hji; exact hy.wpOp hi ⟨fun h => (by rw [hl] at h; cases h), H⟩
  ·have := ready_mono hj hji
   rw [H.1] at this
   cases this
 | succ fuel ih =>
  intro listed a w hfree hr hy H
  refine ⟨fun h => (by rw [h] at hr; cases hr), fun j hj => ?_⟩
  by_cases hji : j = i
  ·subst hji; exact hy.wpOp hi ⟨fun h => (by rw [hl] at h; cases h), H⟩
  ·have h1 := H.2 j (ready_mono hj hji)
   obtain ⟨hjun, oj, hoj, hall⟩ := mem_ready.1 hj
   have hun := getD_both (mem_ready.1 hr).1
   have hnot : ∀ e ∈ oj.after, Region.binds md e = true → e.on ≠ i := fun e he hb heq => by
    have h2 := hall e he hb
    rw [heq, hun] at h2
    cases h2
   have h2 := wpOp_put hoj (hfree j oj hoj hji hjun hnot) (fun cs b => hsel i oi cs b hi) (fun cs b => hsel j oj cs b hoj) hQ hy h1
   have hfree' : ∀ k ok, ops[k]? = some ok → k ≠ i → (listed.setIfInBounds j true).getD k true = false →
     (∀ e ∈ ok.after, Region.binds md e = true → e.on ≠ i) → oi.apart ops ok = true := fun k ok hk hki hu hno => by
    refine hfree k ok hk hki ?_ hno
    by_cases hjk : j = k
    ·subst hjk; exact hjun
    ·rw [getD_set_ne true hjk] at hu; exact hu
   refine wpOp_mono (fun a' w' h3 => ⟨h3.2.1, ih (listed.setIfInBounds j true) a' w' hfree' (ready_mono hr (Ne.symm hji)) h3.1 ?_⟩) h2
   rw [Array.setIfInBounds_comm _ _ hji]
   exact h3.2.2
end
section
variable {P : Program} {l : List Oper} {Q : Exit → Act → World → Prop} {md : Region.Mode} {S : World → Prop} {late : List Nat}
theorem take {i : Nat} {oi : Oper} {v : Value} {fuel : Nat} {listed : Array Bool} {a : Act} {w : World} (hi : l[i]? = some oi)
  (hs : Region.noSelect l.toArray = true) (hf : Region.free md l.toArray listed i = true) (hr : (Region.ready md l.toArray listed).contains i = true)
  (hQ : ∀ c a w, Q (.panic c) (a.put oi.dst v) w → Q (.panic c) a w) (hl : waitB md l.toArray late i = true) (hc : closedB md l.toArray listed = true) (hy : YieldsIf P l.toArray S oi v a) (hS : S w)
  (h : wpT P md l.toArray Q S late fuel (listed.setIfInBounds i true) (a.put oi.dst v) w) : wpT P md l.toArray Q S late (fuel + 1) listed a w :=
 first (by simpa using hi) (Region.noSelect_spec hs) hQ hl fuel listed a w (Region.free_spec (by simpa using hi) hf) (by simpa using hr) (closed_spec hc) hy hS h
theorem takeP {i : Nat} {oi : Oper} {v : Value} {fuel : Nat} {listed : Array Bool} {a : Act} {w : World} (hi : l[i]? = some oi)
  (hs : Region.noSelect l.toArray = true) (hf : Region.free md l.toArray listed i = true) (hr : (Region.ready md l.toArray listed).contains i = true)
  (hQ : ∀ c a w, Q (.panic c) (a.put oi.dst v) w → Q (.panic c) a w) (hl : late.contains i = true) (hy : Yields P l.toArray oi v a)
  (h : wpT P md l.toArray Q S late fuel (listed.setIfInBounds i true) (a.put oi.dst v) w) : wpT P md l.toArray Q S late (fuel + 1) listed a w :=
 firstP (by simpa using hi) (Region.noSelect_spec hs) hQ hl fuel listed a w (Region.free_spec (by simpa using hi) hf) (by simpa using hr) hy h
def Step (P : Program) (md : Region.Mode) (l : List Oper) (Q : Exit → Act → World → Prop) (S : World → Prop) (late : List Nat) (fuel : Nat) (listed : Array Bool) (a : Act) (w : World) (i : Nat) (o : Oper) : Prop :=
 ∀ K' : Act → World → Prop, Shut (∀ a w, (late.contains i = false → S w) → ((late.contains i = false → S w) → wpT P md l.toArray Q S late fuel (listed.setIfInBounds i true) a w) → K' a w) →
  if Region.wanted o (yielded l.toArray a.tmps) = true then Oper.wp P o a w K' Q else K' (a.put o.dst undef) w
theorem Step.op {fuel : Nat} {listed : Array Bool} {a : Act} {w : World} {i : Nat} {o : Oper} (ho : l[i]? = some o) (h : Step P md l Q S late fuel listed a w i o) :
  wpOp P l.toArray Q i (fun a' w' => (late.contains i = false → S w') ∧ wpT P md l.toArray Q S late fuel (listed.setIfInBounds i true) a' w') a w :=
 wpOp_step (by simpa using ho) fun K' hK => h K' fun a w hS hW => hK a w ⟨hS, hW hS⟩
theorem one {i : Nat} {o : Oper} {fuel : Nat} {listed : Array Bool} {a : Act} {w : World} (hr : Region.ready md l.toArray listed = [i]) (ho : l[i]? = some o)
  (h : Step P md l Q S late fuel listed a w i o) : wpT P md l.toArray Q S late (fuel + 1) listed a w :=
 ⟨fun h0 => (by rw [h0] at hr; cases hr), fun j hj => by
  rw [hr] at hj
  obtain rfl : j = i := by simpa using hj
  exact h.op ho⟩
theorem two {i i' : Nat} {o o' : Oper} {fuel : Nat} {listed : Array Bool} {a : Act} {w : World} (hr : Region.ready md l.toArray listed = [i, i']) (ho : l[i]? = some o) (ho' : l[i']? = some o')
  (h : Step P md l Q S late fuel listed a w i o) (h' : Step P md l Q S late fuel listed a w i' o') : wpT P md l.toArray Q S late (fuel + 1) listed a w :=
 ⟨fun h0 => (by rw [h0] at hr; cases hr), fun j hj => by
  rw [hr] at hj
  have hj' : j = i ∨ j = i' := by simpa using hj
  rcases hj' with rfl | rfl
  ·exact h.op ho
  ·exact h'.op ho'⟩
theorem done {listed : Array Bool} {a : Act} {w : World} (hr : Region.ready md l.toArray listed = []) (h : Q .normal a w) : ∀ fuel, wpT P md l.toArray Q S late fuel listed a w
 | 0 => ⟨hr, h⟩
 | _ + 1 => ⟨fun _ => h, by rw [hr]; simp⟩
theorem start {id : Nat} {a : Act} {w : World} (S : World → Prop) (late : List Nat) (n : Nat) (hm : P.follows .mixedOrders = true) (hS : S w.drew) (hn : l.length = n)
  (h : S w.drew → wpT P .any l.toArray Q S late n (Array.replicate n false) a w.drew) : (Code.region id l.toArray true).wp P Q a w :=
 wp_region_any hm (by
  have := wpAny_of _ _ _ _ (h hS)
  rw [List.size_toArray, hn]
  exact this)
end
end Go.Proofs.YtgipnbeipfhekaaGreatDoor.Late
namespace Go.Proofs.YtgipnbeipfhekaaGreatDoor.LcW
open Go.RowKit Go.Proofs.YtgipnbeipfhekaaGreatDoor Go.Proofs.YtgipnbeipfhekaaGreatDoor.Base Go.Proofs.YtgipnbeipfhekaaGreatDoor.Mem Go.Proofs.YtgipnbeipfhekaaGreatDoor.MemS Go.Proofs.YtgipnbeipfhekaaGreatDoor.LabM Go.Proofs.YtgipnbeipfhekaaGreatDoor.LabV Go.Proofs.YtgipnbeipfhekaaGreatDoor.StM Go.Proofs.YtgipnbeipfhekaaGreatDoor.CarM Go.Proofs.YtgipnbeipfhekaaGreatDoor.LcA Go.Proofs.YtgipnbeipfhekaaGreatDoor.LcC Go.Proofs.YtgipnbeipfhekaaGreatDoor.LcI
open Go.Proofs.YtgipnbeipfhekaaGreatDoor.Take (SBox)
set_option linter.unusedVariables false
theorem set_app (l m : List Int) (k : Nat) (v : Int) : (l ++ m).set (l.length + k) v = l ++ m.set k v := by
 rw [List.set_append_right _ _ (Nat.le_add_right _ _), Nat.add_sub_cancel_left]
theorem flat_set7 : ∀ (xs : List St) (p : Nat) (r : St), p < xs.length → ((((((((flat xs).set (7 * p) r.K).set (7 * p + 1) r.W).set (7 * p + 2) r.T).set (7 * p + 3) r.m).set (7 * p + 4) r.f).set (7 * p + 5) r.a).set (7 * p + 6) r.s) = flat (xs.set p r)
 | [], _, _, h => absurd h (Nat.not_lt_zero _)
 | x :: xs, 0, r, _ => rfl
 | x :: xs, p + 1, r, h => by
  have ih := flat_set7 xs p r (Nat.lt_of_succ_lt_succ h)
  have e : ∀ i, 7 * (p + 1) + i = x.l.length + (7 * p + i) := fun i => by show _ = 7 + _; omega
  rw [List.set_cons_succ, flat_cons, flat_cons, ← ih, show 7 * (p + 1) = x.l.length + 7 * p by show _ = 7 + _; omega]
  simp only [Nat.add_assoc]
  rw [set_app, set_app, set_app, set_app, set_app, set_app, set_app]
theorem row_set {w : World} {B g n c p : Nat} {xs : List St} {r : St} (h : w.ownsRow B 29 7 (.slice (some ⟨g, 0, none⟩) n c) n (ints (flat xs))) (hp : p < xs.length) :
  (put7 w g (p * 7) (fun i => r.l.getD i 0)).ownsRow B 29 7 (.slice (some ⟨g, 0, none⟩) n c) n (ints (flat (xs.set p r))) ∧ w.grownBy (put7 w g (p * 7) (fun i => r.l.getD i 0)) (some g) := by
 obtain ⟨h1, g1⟩ := h.stored (7 * p) (.int .i64 r.K)
 obtain ⟨h2, g2⟩ := h1.stored (7 * p + 1) (.int .i64 r.W)
 obtain ⟨h3, g3⟩ := h2.stored (7 * p + 2) (.int .i64 r.T)
 obtain ⟨h4, g4⟩ := h3.stored (7 * p + 3) (.int .i64 r.m)
 obtain ⟨h5, g5⟩ := h4.stored (7 * p + 4) (.int .i64 r.f)
 obtain ⟨h6, g6⟩ := h5.stored (7 * p + 5) (.int .i64 r.a)
 obtain ⟨h7, g7⟩ := h6.stored (7 * p + 6) (.int .i64 r.s)
 rw [ints_set, ints_set, ints_set, ints_set, ints_set, ints_set, ints_set, flat_set7 xs p r hp] at h7
 unfold put7
 rw [Nat.mul_comm p 7]
 exact ⟨h7, grown_trans (grown_trans (grown_trans (grown_trans (grown_trans (grown_trans g1 g2) g3) g4) g5) g6) g7⟩
theorem blkNews {w : World} {b : Nat} {t : TypeId} {cs : Array Value} (h : Blk.Blk w b t cs) : ∀ j u, cs.toList[j]? = some u → w.cell? ⟨b, j, none⟩ = some u := fun j u hu => h.at j (by simpa using hu)
theorem row_at {w : World} {B g n c p : Nat} {xs : List St} (h : w.ownsRow B 29 7 (.slice (some ⟨g, 0, none⟩) n c) xs.length (ints (flat xs))) (hp : p < xs.length) :
  At7 w g (p * 7) (fun i => (xs.getD p zeroSt).l.getD i 0) ∧ ∀ i, w.frozen? ⟨g, i, none⟩ = false := by
 obtain ⟨b, off, e, _, hc⟩ := RdS.st (OwnS.rd h) hp
 injection e with e
 injection e with e1 e2
 subst e1 e2
 rw [Nat.zero_add] at hc
 refine ⟨hc, fun i => ?_⟩
 obtain ⟨cur, h2, _⟩ := ownsRow_block h (g := g) rfl
 exact Lib.frozen_of_heap h2 i
theorem blkFar {w w' : World} {B b n sz : Nat} {e t : TypeId} {v : Value} {xs : List Value} {cs : Array Value} (hK : Blk.Blk w b t cs) (h : w.ownsRow B e sz v n xs) (hg : w.grownBy w' v.ownBlock) (hne : e ≠ t := by decide) : Blk.Blk w' b t cs :=
 hK.kept hg fun he => by
  obtain ⟨cur, h2, _⟩ := ownsRow_block h he
  unfold Blk.Blk at hK
  rw [hK] at h2
  injection h2 with h2
  injection h2 with _ h3
  exact hne h3.symm
set_option maxHeartbeats 4000000 in
set_option maxRecDepth 100000 in
theorem with_at (L : Lb) (v : Value) (x : ByteArray) (r : St) (w : World) (h : LabAt w v L) (hl : L.1.length = L.2.length) (hn : L.1.length ≤ 6) (hh : hasS L.1 x = true) (hsz : ∀ i, i < L.1.length → (L.1.getD i ByteArray.empty).size ≤ 9223372036854775807) :
  Calls Tryz.prog 139 #[v, .string x, r.val] w fun e w' => ∃ v', e = .returned (.tuple #[v', .bool (labR (withR L x r))]) ∧ LabOwn w.heap.size w' v' (withR L x r) ∧ Below w.heap.size w w' := by
 have hp : posS L.1 x < L.2.length := by have := (of_decide_eq_true hh).1; omega
 have HR : Hid (withR L x r = (L.1, L.2.set (posS L.1 x) r)) := Lib.hid (by unfold withR; rw [hh]; rfl)
 rw [HR.out]
 have hns : (L.2.set (posS L.1 x) r).length = L.2.length := by simp
 obtain ⟨nl, hnl⟩ : ∃ nl, nl = L.2.set (posS L.1 x) r := ⟨_, rfl⟩
 rw [← hnl] at HR hns ⊢
 have HLR : Hid (labR (L.1, nl) = labB L.1 L.2.length (flat nl)) := Lib.hid (by unfold labR; rw [hns])
 obtain ⟨ok, hok⟩ : ∃ ok, ok = labB L.1 L.2.length (flat nl) := ⟨_, rfl⟩
 rw [HLR.out, ← hok]
 have hv0 := h
 obtain ⟨A, c, A', c', rfl, hx, hy, _⟩ := h
 obtain ⟨W3, hW3⟩ : ∃ W3, W3 = ((w.alloc (.cells #[.slice A L.1.length c, .slice A' L.2.length c'] 53)).alloc (.cells #[.int .i64 r.K, .int .i64 r.W, .int .i64 r.T, .int .i64 r.m, .int .i64 r.f, .int .i64 r.a, .int .i64 r.s] 29)).alloc (.cells #[.slice none 0 0, .slice none 0 0] 53) := ⟨_, rfl⟩
 have b3 : Below w.heap.size w W3 := by rw [hW3]; exact (((Below.refl _ _).alloc (Nat.le_refl _) _).alloc (by simp) _).alloc (by simp; omega) _
 have hz3 : W3.heap.size = w.heap.size + 3 := by rw [hW3]; simp
 have KS : SBox W3 (w.heap.size + 1) r.K r.W r.T r.m r.f r.a r.s := by
  have := SBox.new (w.alloc (.cells #[.slice A L.1.length c, .slice A' L.2.length c'] 53)) r.K r.W r.T r.m r.f r.a r.s
  rw [World.size_alloc] at this
  rw [hW3]; exact this.below ((Below.refl _ _).alloc (Nat.le_refl _) _) (by simp)
 have KR : Blk.Blk W3 (w.heap.size + 2) 53 #[.slice none 0 0, .slice none 0 0] := by rw [hW3]; exact Blk.Blk.newAt _ _ (by simp)
 have HCl := Lib.hid (labClone_any L (.agg #[.slice A L.1.length c, .slice A' L.2.length c']) W3 (hv0.below b3) (by omega) (by omega))
 have HW := Lib.hid hW3
 have HLL := Lib.hid hl
 clear hW3 hx hy hl hv0
 obtain ⟨K, W, T, m, f, a, s⟩ := r
 unfold St.val
 dsimp only at KS HW ⊢
 go_enter Tryz.func139, Tryz.ntmps139
 go_wp2_with fail
 rw [← HW.out]
 refine HCl.out.mono ?_
 rintro e w1 ⟨v1, rfl, ⟨A1, c1, A2, c2, rfl, o1, o2⟩, b1⟩
 obtain ⟨W4, hW4⟩ : ∃ W4, W4 = w1.alloc (.cells #[.slice A1 L.1.length c1, .slice A2 L.2.length c2] 53) := ⟨_, rfl⟩
 have b4 : Below w1.heap.size w1 W4 := by rw [hW4]; exact (Below.refl _ _).alloc (Nat.le_refl _) _
 have KT : Blk.Blk W4 w1.heap.size 53 #[.slice A1 L.1.length c1, .slice A2 L.2.length c2] := by rw [hW4]; exact Blk.Blk.new _ _ _
 have b34 := Base.Below.nextA b1 b4
 have hz4 : W4.heap.size = w1.heap.size + 1 := by rw [hW4]; simp
 have p1 := ownsRow_below o1 b4
 have p2 := ownsRow_below o2 b4
 have HSr := Lib.hid (search_any A1 c1 W4.heap.size L.1 x W4 (OwnT.rd p1) (by omega))
 rw [hh] at HSr
 have HW4 := Lib.hid hW4
 have KS4 := KS.below b34 KS.lt
 have KR4 := KR.belowS b34
 have B4 := Base.Below.nextA b3 b34
 have hz1 := b1.size
 clear hW4 b4 b34 b1 o1 o2 KS KR b3 HCl HW
 go_wp2_with fail
 rw [← HW4.out]
 refine HSr.out.mono ?_
 rintro e w2 ⟨rfl, hb2⟩
 have KS5 := KS4.below hb2 KS4.lt
 have KR := Lib.hid (KR4.belowS hb2)
 have KT := Lib.hid (KT.belowS hb2)
 have HB := Lib.hid (Base.Below.nextA B4 hb2)
 have q1 := ownsRow_below p1 hb2
 have q2 := ownsRow_below p2 hb2
 have hz2 := hb2.size
 clear KS4 KR4 B4 p1 p2 hb2 HSr HW4
 obtain ⟨A2', c2', e2, hf2⟩ := ownsRow_form q2
 obtain ⟨g, rfl, hg1, hg2⟩ := hf2 (by have := HLL.out; omega)
 injection e2 with e3 e4 e5
 subst e3 e5
 clear e4
 have QA := row_at q2 hp
 have Q2 := row_set (r := ⟨K, W, T, m, f, a, s⟩) q2 hp
 rw [← hnl] at Q2
 obtain ⟨W5, hW5⟩ : ∃ W5, W5 = put7 w2 g (posS L.1 x * 7) (fun i => (⟨K, W, T, m, f, a, s⟩ : St).l.getD i 0) := ⟨_, rfl⟩
 rw [← hW5] at Q2
 have O1 := Lib.hid (ownsRow_base (LvT.rowKept q1 q2 (by decide) Q2.2) (show w.heap.size ≤ W3.heap.size by omega))
 have O2 := Lib.hid (ownsRow_base Q2.1 (show w.heap.size ≤ W3.heap.size by omega))
 have KT5 := Lib.hid (blkFar KT.out q2 Q2.2)
 have KR5 := Lib.hid (blkFar KR.out q2 Q2.2)
 have HB5 := Lib.hid (HB.out.trans (grown_below (B := w.heap.size) Q2.2 (fun q e => by injection e with e; omega) (by omega)))
 have HV := Lib.hid (fun W (hW : Below W5.heap.size W5 W) => implLab_any A1 (some ⟨g, 0, none⟩) c1 c2 W.heap.size L.2.length L.1 (flat nl) W (OwnT.rd (ownsRow_below O1.out hW)) (OwnS.rd (ownsRow_below O2.out hW)) (Nat.le_refl _) hsz (by omega) (by have := HLL.out; omega))
 have HY : Hid (∀ (W : World) (b : Bool), (W.ownsRow w.heap.size 9 1 (.slice A1 L.1.length c1) L.1.length (texts L.1) ∧ W.ownsRow w.heap.size 29 7 (.slice (some ⟨g, 0, none⟩) L.2.length c2) L.2.length (ints (flat nl)) ∧ Below w.heap.size w W) → ∃ v', Ending.returned (.tuple #[.agg #[.slice A1 L.1.length c1, .slice (some ⟨g, 0, none⟩) L.2.length c2], .bool b]) = .returned (.tuple #[v', .bool b]) ∧ LabOwn w.heap.size W v' (L.1, nl) ∧ Below w.heap.size w W) := Lib.hid fun W b hh2 => ⟨_, rfl, ⟨A1, c1, some ⟨g, 0, none⟩, c2, by rw [hns], hh2.1, by rw [hns]; exact hh2.2.1⟩, hh2.2.2⟩
 rw [← hok] at HV
 have HW5 := Lib.hid hW5
 unfold put7 at HW5
 simp only [St.l, List.getD_cons_zero, List.getD_cons_succ] at HW5
 have e1 := KT.out.at 1 (v := .slice (some ⟨g, 0, none⟩) L.2.length c2) rfl
 have y0 := (KS5).c0; have y1 := (KS5).c1; have y2 := (KS5).c2; have y3 := (KS5).c3; have y4 := (KS5).c4; have y5 := (KS5).c5; have y6 := (KS5).c6
 obtain ⟨QC, QF⟩ := QA
 have g0 := QC.c0
 have g1 := QC.c1
 have g2 := QC.c2
 have g3 := QC.c3
 have g4 := QC.c4
 have g5 := QC.c5
 have g6 := QC.c6
 have hpl : ((posS L.1 x : Nat) : Int) < (L.2.length : Int) := by omega
 clear QC KS5 q1 q2 Q2 hW5 KT KR HB hp hns HR HLR hnl hh hok
 generalize posS L.1 x = p at *
 generalize (L.2.getD p zeroSt).l.getD 0 0 = u0 at *
 generalize (L.2.getD p zeroSt).l.getD 1 0 = u1 at *
 generalize (L.2.getD p zeroSt).l.getD 2 0 = u2 at *
 generalize (L.2.getD p zeroSt).l.getD 3 0 = u3 at *
 generalize (L.2.getD p zeroSt).l.getD 4 0 = u4 at *
 generalize (L.2.getD p zeroSt).l.getD 5 0 = u5 at *
 generalize (L.2.getD p zeroSt).l.getD 6 0 = u6 at *
 go_wp2_with fail
 rw [← HW5.out]
 have KT := KT5
 have KR := KR5
 have HB := HB5
 clear KT5 KR5 HB5 e1 y0 y1 y2 y3 y4 y5 y6 g0 g1 g2 g3 g4 g5 g6 QF HW5
 refine Rel.wp_region_rel 3 (by kernel_rfl) (by kernel_rfl) (fun F hF => ?_)
 simp only [List.take_succ_cons, List.take_zero, List.drop_succ_cons, List.drop_zero, Rel.putL] at hF ⊢
 have HF := Lib.hid hF
 clear hF
 have uv := @Rel.upon_value Tryz.prog
 have ue := @Rel.upon_enter Tryz.prog
 apply Rel.rel_pure
 apply Exists.intro
 refine ⟨fun vs wq hq hdp R hR => ?_, ?_⟩
 ·(rw [HF.out, Rel.stepAt_eq]; clear hdp; have x0 := (KT.out.belowS hq).at 0 (v := .slice A1 L.1.length c1) rfl; have x1 := (KT.out.belowS hq).at 1 (v := .slice (some ⟨g, 0, none⟩) L.2.length c2) rfl; go_simp; exact hR)
 apply Rel.rel_pure
 apply Exists.intro
 refine ⟨fun vs wq hq hdp R hR => ?_, ?_⟩
 ·(rw [HF.out, Rel.stepAt_eq]; clear hdp; have x0 := (KT.out.belowS hq).at 0 (v := .slice A1 L.1.length c1) rfl; have x1 := (KT.out.belowS hq).at 1 (v := .slice (some ⟨g, 0, none⟩) L.2.length c2) rfl; go_simp; exact hR)
 apply Rel.rel_same
 apply Exists.intro
 refine ⟨fun vs wq hq hdp => ?_, ?_⟩
 ·(rw [HF.out, Rel.stepAt_eq]; have qd1 : vs 1 = _ := Rel.dep hdp 1 (by kernel_rfl); clear hdp; skip; go_simp; refine (HV.out wq hq).mono ?_; rintro e w7 ⟨rfl, hb⟩; exact ⟨_, rfl, rfl, hb⟩)
 refine Rel.rel_end (fun vs wq hq hall => ?_)
 rw [HF.out]
 have qe0 : vs 0 = _ := Rel.fin hall 0 (by decide)
 have qe1 : vs 1 = _ := Rel.fin hall 1 (by decide)
 have qe2 : vs 2 = _ := Rel.fin hall 2 (by decide)
 clear hall HF uv ue
 have KR2 := KR.out.belowS hq
 have HB2 := Base.Below.nextA HB.out hq
 have r0 := KR2.at 0 (v := .slice none 0 0) rfl
 have r1 := KR2.at 1 (v := .slice none 0 0) rfl
 have f0 := KR2.frz 0
 have f1 := KR2.frz 1
 have KK := (KR2.setTo 0 (.slice A1 L.1.length c1) rfl).setTo 1 (.slice (some ⟨g, 0, none⟩) L.2.length c2) rfl
 have k0 := KK.at 0 (v := .slice A1 L.1.length c1) rfl
 have k1 := KK.at 1 (v := .slice (some ⟨g, 0, none⟩) L.2.length c2) rfl
 have HFIN := Lib.hid (And.intro (ownsRow_setCell_below' (ownsRow_below O1.out hq) KR2 0 (.slice A1 L.1.length c1) 1 (.slice (some ⟨g, 0, none⟩) L.2.length c2)) (And.intro (ownsRow_setCell_below' (ownsRow_below O2.out hq) KR2 0 (.slice A1 L.1.length c1) 1 (.slice (some ⟨g, 0, none⟩) L.2.length c2)) ((HB2.setCell (p := ⟨w.heap.size + 2, 0, none⟩) (by simp) (.slice A1 L.1.length c1)).setCell (p := ⟨w.heap.size + 2, 1, none⟩) (by simp) (.slice (some ⟨g, 0, none⟩) L.2.length c2))))
 clear KK KR2 HB2 hq qe1
 go_wp2
 refine bodyPost_ret (v := .tuple #[.agg #[.slice A1 L.1.length c1, .slice (some ⟨g, 0, none⟩) L.2.length c2], .bool ok]) (by simp [results, Tryz.results139, go_sem, k0, k1]) rfl ?_
 exact HY.out _ _ ⟨HFIN.out.1, HFIN.out.2.1, HFIN.out.2.2⟩
set_option maxHeartbeats 8000000 in
set_option maxRecDepth 100000 in
theorem with_end (L : Lb) (v : Value) (x : ByteArray) (r : St) (w : World) (h : LabAt w v L) (hl : L.1.length = L.2.length) (hn : L.1.length ≤ 6) (hh : hasS L.1 x = false) (hpe : posS L.1 x = L.1.length) (hsz : ∀ i, i < L.1.length → (L.1.getD i ByteArray.empty).size ≤ 9223372036854775807) (hsx : x.size ≤ 9223372036854775807) :
  Calls Tryz.prog 139 #[v, .string x, r.val] w fun e w' => ∃ v', e = .returned (.tuple #[v', .bool (labR (withR L x r))]) ∧ LabOwn w.heap.size w' v' (withR L x r) ∧ Below w.heap.size w w' := by
 have HR : Hid (withR L x r = (L.1 ++ [x], L.2 ++ [r])) := Lib.hid (by unfold withR; rw [hh, hpe, List.take_length, List.drop_length, hl, List.take_length, List.drop_length]; rfl)
 rw [HR.out]
 obtain ⟨nl, hnl⟩ : ∃ nl, nl = L.2 ++ [r] := ⟨_, rfl⟩
 obtain ⟨ns, hns⟩ : ∃ ns, ns = L.1 ++ [x] := ⟨_, rfl⟩
 have hfl : ints (flat nl) = ints (flat L.2) ++ [.int .i64 r.K, .int .i64 r.W, .int .i64 r.T, .int .i64 r.m, .int .i64 r.f, .int .i64 r.a, .int .i64 r.s] := by rw [hnl, flat_app]; simp [ints, flat, St.l]
 have htx : texts ns = texts L.1 ++ [.string x] := by rw [hns]; simp [texts]
 have hll2 : nl.length = L.2.length + 1 := by rw [hnl]; simp
 have hll1 : ns.length = L.1.length + 1 := by rw [hns]; simp
 have hsn : ∀ i, i < ns.length → (ns.getD i ByteArray.empty).size ≤ 9223372036854775807 := fun i hi => by
  rw [hns]
  by_cases hi2 : i < L.1.length
  ·rw [List.getD_eq_getElem?_getD, List.getElem?_append_left hi2, ← List.getD_eq_getElem?_getD]; exact hsz i hi2
  ·have : i = L.1.length := by omega
   subst this
   rw [List.getD_eq_getElem?_getD, List.getElem?_append_right (Nat.le_refl _)]
   simpa using hsx
 rw [← hnl, ← hns]
 obtain ⟨ok, hok⟩ : ∃ ok, ok = labR (ns, nl) := ⟨_, rfl⟩
 rw [← hok]
 have hv0 := h
 obtain ⟨A, c, A', c', rfl, hx, hy, _⟩ := h
 obtain ⟨W3, hW3⟩ : ∃ W3, W3 = ((w.alloc (.cells #[.slice A L.1.length c, .slice A' L.2.length c'] 53)).alloc (.cells #[.int .i64 r.K, .int .i64 r.W, .int .i64 r.T, .int .i64 r.m, .int .i64 r.f, .int .i64 r.a, .int .i64 r.s] 29)).alloc (.cells #[.slice none 0 0, .slice none 0 0] 53) := ⟨_, rfl⟩
 have b3 : Below w.heap.size w W3 := by rw [hW3]; exact (((Below.refl _ _).alloc (Nat.le_refl _) _).alloc (by simp) _).alloc (by simp; omega) _
 have hz3 : W3.heap.size = w.heap.size + 3 := by rw [hW3]; simp
 have KS : SBox W3 (w.heap.size + 1) r.K r.W r.T r.m r.f r.a r.s := by
  have := SBox.new (w.alloc (.cells #[.slice A L.1.length c, .slice A' L.2.length c'] 53)) r.K r.W r.T r.m r.f r.a r.s
  rw [World.size_alloc] at this
  rw [hW3]; exact this.below ((Below.refl _ _).alloc (Nat.le_refl _) _) (by simp)
 have KR : Blk.Blk W3 (w.heap.size + 2) 53 #[.slice none 0 0, .slice none 0 0] := by rw [hW3]; exact Blk.Blk.newAt _ _ (by simp)
 have HCl := Lib.hid (labClone_any L (.agg #[.slice A L.1.length c, .slice A' L.2.length c']) W3 (hv0.below b3) (by omega) (by omega))
 have HW := Lib.hid hW3
 have HLL := Lib.hid hl
 clear hW3 hx hy hl hv0
 obtain ⟨K, W, T, m, f, a, s⟩ := r
 unfold St.val
 dsimp only at KS HW ⊢
 go_enter Tryz.func139, Tryz.ntmps139
 go_wp2_with fail
 rw [← HW.out]
 refine HCl.out.mono ?_
 rintro e w1 ⟨v1, rfl, ⟨A1, c1, A2, c2, rfl, o1, o2⟩, b1⟩
 obtain ⟨W4, hW4⟩ : ∃ W4, W4 = w1.alloc (.cells #[.slice A1 L.1.length c1, .slice A2 L.2.length c2] 53) := ⟨_, rfl⟩
 have b4 : Below w1.heap.size w1 W4 := by rw [hW4]; exact (Below.refl _ _).alloc (Nat.le_refl _) _
 have KT : Blk.Blk W4 w1.heap.size 53 #[.slice A1 L.1.length c1, .slice A2 L.2.length c2] := by rw [hW4]; exact Blk.Blk.new _ _ _
 have b34 := Base.Below.nextA b1 b4
 have hz4 : W4.heap.size = w1.heap.size + 1 := by rw [hW4]; simp
 have p1 := ownsRow_below o1 b4
 have p2 := ownsRow_below o2 b4
 have HSr := Lib.hid (search_any A1 c1 W4.heap.size L.1 x W4 (OwnT.rd p1) (by omega))
 rw [hh, hpe] at HSr
 have HW4 := Lib.hid hW4
 have KS4 := KS.below b34 KS.lt
 have KR4 := KR.belowS b34
 have B4 := Base.Below.nextA b3 b34
 have hz1 := b1.size
 clear hW4 b4 b34 b1 o1 o2 KS KR b3 HCl HW
 go_wp2_with fail
 rw [← HW4.out]
 refine HSr.out.mono ?_
 rintro e w2 ⟨rfl, hb2⟩
 have KS5 := KS4.below hb2 KS4.lt
 have KR := Lib.hid (KR4.belowS hb2)
 have KT := Lib.hid (KT.belowS hb2)
 have HB := Lib.hid (Base.Below.nextA B4 hb2)
 have q1 := ownsRow_below p1 hb2
 have q2 := ownsRow_below p2 hb2
 have hz2 := hb2.size
 clear KS4 KR4 B4 p1 p2 hb2 HSr HW4
 have Q1 := Lib.hid q1
 have Q2 := Lib.hid q2
 have KS : Hid (Blk.Blk w2 (w.heap.size + 1) 29 #[.int .i64 K, .int .i64 W, .int .i64 T, .int .i64 m, .int .i64 f, .int .i64 a, .int .i64 s]) := Lib.hid KS5
 have HZ3 : Hid (W3.heap.size ≤ w2.heap.size) := Lib.hid (by omega)
 have HW3 : Hid (w.heap.size ≤ W3.heap.size) := Lib.hid (by omega)
 have HZW : Hid (w.heap.size ≤ w2.heap.size) := Lib.hid (by omega)
 have HNE : Hid (¬ W3.heap.size ≤ w.heap.size + 1) := Lib.hid (by omega)
 have HN1 : Hid (L.1.length ≤ 1000) := Lib.hid (by omega)
 have HN2 : Hid (L.2.length ≤ 1000) := Lib.hid (by have := HLL.out; omega)
 have HLN := Lib.hid (show ((L.1.length : Nat) : Int) = ((L.2.length : Nat) : Int) by have := HLL.out; omega)
 have HFL := Lib.hid hfl
 have HTX := Lib.hid htx
 have HL2 := Lib.hid hll2
 have HL1 := Lib.hid hll1
 have HSN := Lib.hid hsn
 have HOK := Lib.hid hok
 have H13 : Hid (w1.heap.size ≠ w.heap.size + 2) := Lib.hid (by omega)
 have H14 : Hid (w.heap.size ≤ w1.heap.size) := Lib.hid (by omega)
 clear q1 q2 KS5 hnl hns hfl htx hll1 hll2 hsn hsz hsx hok hh hpe HR hz1 hz2 hz3
 go_wp2_with fail
 obtain ⟨S, hSE⟩ : ∃ S : World → Prop, S = fun w' => w'.cell? ⟨w1.heap.size, 0, none⟩ = some (.slice A1 L.1.length c1) ∧ w'.cell? ⟨w1.heap.size, 1, none⟩ = some (.slice A2 L.2.length c2) ∧ w'.cell? ⟨w.heap.size + 1, 0, none⟩ = some (.int .i64 K) ∧ w'.cell? ⟨w.heap.size + 1, 1, none⟩ = some (.int .i64 W) ∧ w'.cell? ⟨w.heap.size + 1, 2, none⟩ = some (.int .i64 T) ∧ w'.cell? ⟨w.heap.size + 1, 3, none⟩ = some (.int .i64 m) ∧ w'.cell? ⟨w.heap.size + 1, 4, none⟩ = some (.int .i64 f) ∧ w'.cell? ⟨w.heap.size + 1, 5, none⟩ = some (.int .i64 a) ∧ w'.cell? ⟨w.heap.size + 1, 6, none⟩ = some (.int .i64 s) := ⟨_, rfl⟩
 have HSE := Lib.hid hSE
 have HSA : Hid (∀ V, Blk.Blk V w1.heap.size 53 #[.slice A1 L.1.length c1, .slice A2 L.2.length c2] → Blk.Blk V (w.heap.size + 1) 29 #[.int .i64 K, .int .i64 W, .int .i64 T, .int .i64 m, .int .i64 f, .int .i64 a, .int .i64 s] → S V) := Lib.hid (fun V h1 h2 => by rw [hSE]; exact ⟨h1.at 0 rfl, h1.at 1 rfl, h2.at 0 rfl, h2.at 1 rfl, h2.at 2 rfl, h2.at 3 rfl, h2.at 4 rfl, h2.at 5 rfl, h2.at 6 rfl⟩)
 clear hSE
 refine Late.start S [13, 14, 15] 16 (by kernel_rfl) (HSA.out _ KT.out KS.out) rfl (fun hS => ?_)
 refine Late.take (i := 0) (v := ?_) (by rfl) (by kernel_rfl) (by kernel_rfl) (by kernel_rfl) (by intro _ _ _ h; exact h) (by kernel_rfl) (by kernel_rfl) (Or.inl ⟨by rfl, ?_⟩) hS ?_
 rotate_left
 ·(intro W' hW'; rw [HSE.out] at hW'; obtain ⟨q0, q1, y0, y1, y2, y3, y4, y5, y6⟩ := hW'; go_simp; (try with_reducible rfl))
 try simp only [Act.put, List.setIfInBounds_toArray, List.set_cons_zero, List.set_cons_succ]
 refine Late.take (i := 1) (v := ?_) (by rfl) (by kernel_rfl) (by kernel_rfl) (by kernel_rfl) (by intro _ _ _ h; exact h) (by kernel_rfl) (by kernel_rfl) (Or.inl ⟨by rfl, ?_⟩) hS ?_
 rotate_left
 ·(intro W' hW'; rw [HSE.out] at hW'; obtain ⟨q0, q1, y0, y1, y2, y3, y4, y5, y6⟩ := hW'; go_simp; (try with_reducible rfl))
 try simp only [Act.put, List.setIfInBounds_toArray, List.set_cons_zero, List.set_cons_succ]
 refine Late.take (i := 2) (v := ?_) (by rfl) (by kernel_rfl) (by kernel_rfl) (by kernel_rfl) (by intro _ _ _ h; exact h) (by kernel_rfl) (by kernel_rfl) (Or.inl ⟨by rfl, ?_⟩) hS ?_
 rotate_left
 ·(intro W' hW'; rw [HSE.out] at hW'; obtain ⟨q0, q1, y0, y1, y2, y3, y4, y5, y6⟩ := hW'; go_simp; (try with_reducible rfl))
 try simp only [Act.put, List.setIfInBounds_toArray, List.set_cons_zero, List.set_cons_succ]
 refine Late.take (i := 3) (v := ?_) (by rfl) (by kernel_rfl) (by kernel_rfl) (by kernel_rfl) (by intro _ _ _ h; exact h) (by kernel_rfl) (by kernel_rfl) (Or.inl ⟨by rfl, ?_⟩) hS ?_
 rotate_left
 ·(intro W' hW'; rw [HSE.out] at hW'; obtain ⟨q0, q1, y0, y1, y2, y3, y4, y5, y6⟩ := hW'; go_simp; (try with_reducible rfl))
 try simp only [Act.put, List.setIfInBounds_toArray, List.set_cons_zero, List.set_cons_succ]
 refine Late.take (i := 6) (v := ?_) (by rfl) (by kernel_rfl) (by kernel_rfl) (by kernel_rfl) (by intro _ _ _ h; exact h) (by kernel_rfl) (by kernel_rfl) (Or.inl ⟨by rfl, ?_⟩) hS ?_
 rotate_left
 ·(intro W' hW'; rw [HSE.out] at hW'; obtain ⟨q0, q1, y0, y1, y2, y3, y4, y5, y6⟩ := hW'; go_simp; (try with_reducible rfl))
 try simp only [Act.put, List.setIfInBounds_toArray, List.set_cons_zero, List.set_cons_succ]
 refine Late.take (i := 7) (v := ?_) (by rfl) (by kernel_rfl) (by kernel_rfl) (by kernel_rfl) (by intro _ _ _ h; exact h) (by kernel_rfl) (by kernel_rfl) (Or.inl ⟨by rfl, ?_⟩) hS ?_
 rotate_left
 ·(intro W' hW'; rw [HSE.out] at hW'; obtain ⟨q0, q1, y0, y1, y2, y3, y4, y5, y6⟩ := hW'; go_simp; (try with_reducible rfl))
 try simp only [Act.put, List.setIfInBounds_toArray, List.set_cons_zero, List.set_cons_succ]
 refine Late.take (i := 8) (v := ?_) (by rfl) (by kernel_rfl) (by kernel_rfl) (by kernel_rfl) (by intro _ _ _ h; exact h) (by kernel_rfl) (by kernel_rfl) (Or.inl ⟨by rfl, ?_⟩) hS ?_
 rotate_left
 ·(intro W' hW'; rw [HSE.out] at hW'; obtain ⟨q0, q1, y0, y1, y2, y3, y4, y5, y6⟩ := hW'; go_simp; (try with_reducible rfl))
 try simp only [Act.put, List.setIfInBounds_toArray, List.set_cons_zero, List.set_cons_succ]
 refine Late.take (i := 9) (v := ?_) (by rfl) (by kernel_rfl) (by kernel_rfl) (by kernel_rfl) (by intro _ _ _ h; exact h) (by kernel_rfl) (by kernel_rfl) (Or.inl ⟨by rfl, ?_⟩) hS ?_
 rotate_left
 ·(intro W' hW'; rw [HSE.out] at hW'; obtain ⟨q0, q1, y0, y1, y2, y3, y4, y5, y6⟩ := hW'; go_simp; (try with_reducible rfl))
 try simp only [Act.put, List.setIfInBounds_toArray, List.set_cons_zero, List.set_cons_succ]
 refine Late.two (i := 4) (i' := 10) (by kernel_rfl) (by rfl) (by rfl) (fun K' hK => ?_) (fun K' hK => ?_)
 go_simp
 refine hK.out _ _ (fun _ => HSA.out _ (KT.out.alloc _) (KS.out.alloc _)) (fun hS' => ?_)
 have hS := hS' (by decide)
 clear hS' hK
 clear K'
 try simp only [Act.put, List.setIfInBounds_toArray, List.set_cons_zero, List.set_cons_succ]
 refine Late.two (i := 5) (i' := 10) (by kernel_rfl) (by rfl) (by rfl) (fun K' hK => ?_) (fun K' hK => ?_)
 go_simp
 have QX := Lib.hid (show Below w2.heap.size w2 ((w2.alloc (.cells #[.string x] 9)).drew) from ((Below.refl _ _).alloc (Nat.le_refl _) _).drew)
 have QZ := Lib.hid (QX.out.size)
 refine (insT_end A1 L.1.length c1 W3.heap.size (w2.heap.size) (texts L.1) [.string x] ((w2.alloc (.cells #[.string x] 9)).drew) (ownsRow_below Q1.out QX.out) (Nat.le_trans HZ3.out QZ.out) HN1.out rfl (by simp [Value.oneCell']) (blkNews (Blk.Blk.new w2 _ _))).mono ?_
 rintro e w5 ⟨A5, c5, rfl, o5, g5⟩
 have PA := ownsRow_below Q1.out QX.out
 have KT5 := Lib.hid (blkFar (KT.out.belowS QX.out) PA g5)
 have KR5 := Lib.hid (blkFar (KR.out.belowS QX.out) PA g5)
 have KS5 := Lib.hid (blkFar (KS.out.belowS QX.out) PA g5)
 have Q2' := Lib.hid (LvT.rowKept (ownsRow_below Q2.out QX.out) PA (by decide) g5)
 have O5 := Lib.hid o5
 have HB5 := Lib.hid (HB.out.trans ((QX.out.mono HZW.out).trans (grown_below g5 (fun q e => Nat.le_trans HW3.out (ownsRow_block PA e).choose_spec.2.1) (Nat.le_trans HZW.out QZ.out))))
 have hz5 : w2.heap.size ≤ w5.heap.size := Nat.le_trans QZ.out g5.size
 skip
 clear o5 g5 PA
 clear QX QZ
 go_simp
 refine hK.out _ _ (fun _ => HSA.out _ (KT5.out) (KS5.out)) (fun hS' => ?_)
 have hS := hS' (by decide)
 clear hS' hK
 clear K'
 try simp only [Act.put, List.setIfInBounds_toArray, List.set_cons_zero, List.set_cons_succ]
 refine Late.take (i := 12) (v := ?_) (by rfl) (by kernel_rfl) (by kernel_rfl) (by kernel_rfl) (by intro _ _ _ h; exact h) (by kernel_rfl) (by kernel_rfl) (Or.inl ⟨by rfl, ?_⟩) hS ?_
 rotate_left
 ·(intro W' hW'; rw [HSE.out] at hW'; obtain ⟨q0, q1, y0, y1, y2, y3, y4, y5, y6⟩ := hW'; go_simp; (try with_reducible rfl))
 try simp only [Act.put, List.setIfInBounds_toArray, List.set_cons_zero, List.set_cons_succ]
 refine Late.one (i := 10) (by kernel_rfl) (by rfl) (fun K' hK => ?_)
 go_simp
 refine hK.out _ _ (fun _ => HSA.out _ (KT5.out.alloc _) (KS5.out.alloc _)) (fun hS' => ?_)
 have hS := hS' (by decide)
 clear hS' hK
 clear K'
 try simp only [Act.put, List.setIfInBounds_toArray, List.set_cons_zero, List.set_cons_succ]
 refine Late.one (i := 11) (by kernel_rfl) (by rfl) (fun K' hK => ?_)
 go_simp
 rw [HLN.out]
 have QY := Lib.hid (show Below w5.heap.size w5 (w5.alloc (.cells #[.int .i64 K, .int .i64 W, .int .i64 T, .int .i64 m, .int .i64 f, .int .i64 a, .int .i64 s] 29)) from ((Below.refl _ _).alloc (Nat.le_refl _) _))
 have QZ := Lib.hid (QY.out.size)
 refine (insS_end A2 L.2.length c2 W3.heap.size (w5.heap.size) (ints (flat L.2)) [.int .i64 K, .int .i64 W, .int .i64 T, .int .i64 m, .int .i64 f, .int .i64 a, .int .i64 s] (w5.alloc (.cells #[.int .i64 K, .int .i64 W, .int .i64 T, .int .i64 m, .int .i64 f, .int .i64 a, .int .i64 s] 29)) (ownsRow_below Q2'.out QY.out) (Nat.le_trans HZ3.out (Nat.le_trans hz5 QZ.out)) HN2.out rfl (by simp [Value.oneCell']) (blkNews (Blk.Blk.new w5 _ _))).mono ?_
 rintro e w6 ⟨A6, c6, rfl, o6, g6⟩
 have PB := ownsRow_below Q2'.out QY.out
 have KT6 := Lib.hid (blkFar (KT5.out.belowS QY.out) PB g6)
 have KR6 := Lib.hid (blkFar (KR5.out.belowS QY.out) PB g6)
 have KS6 := Lib.hid ((KS5.out.belowS QY.out).kept g6 (fun e => HNE.out (ownsRow_block PB e).choose_spec.2.1))
 have O1 := Lib.hid (LvT.rowKept (ownsRow_below O5.out QY.out) PB (by decide) g6)
 have O2 := Lib.hid o6
 have HB6 := Lib.hid (HB5.out.trans ((QY.out.mono HB5.out.size).trans (grown_below g6 (fun q e => Nat.le_trans HW3.out (ownsRow_block PB e).choose_spec.2.1) (Nat.le_trans HB5.out.size QZ.out))))
 clear o6 g6 PB
 clear QY QZ
 go_simp
 refine hK.out _ _ (fun _ => HSA.out _ (KT6.out) (KS6.out)) (fun hS' => ?_)
 have hS := hS' (by decide)
 clear hS' hK
 clear K'
 try simp only [Act.put, List.setIfInBounds_toArray, List.set_cons_zero, List.set_cons_succ]
 have s0 := KT6.out.at 0 (v := .slice A1 L.1.length c1) rfl
 have s1 := KT6.out.at 1 (v := .slice A2 L.2.length c2) rfl
 have s2 := KT6.out.frz 0
 have s3 := KT6.out.frz 1
 refine Late.one (i := 13) (by kernel_rfl) (by rfl) (fun K' hK => ?_)
 go_simp
 refine hK.out _ _ (fun h => absurd h (by decide)) (fun _ => ?_)
 clear hK
 clear K'
 try simp only [Act.put, List.setIfInBounds_toArray, List.set_cons_zero, List.set_cons_succ]
 refine Late.one (i := 14) (by kernel_rfl) (by rfl) (fun K' hK => ?_)
 go_simp
 refine hK.out _ _ (fun h => absurd h (by decide)) (fun _ => ?_)
 clear hK
 clear K'
 try simp only [Act.put, List.setIfInBounds_toArray, List.set_cons_zero, List.set_cons_succ]
 refine Late.one (i := 15) (by kernel_rfl) (by rfl) (fun K' hK => ?_)
 go_simp
 refine hK.out _ _ (fun h => absurd h (by decide)) (fun _ => ?_)
 clear hK
 clear K'
 try simp only [Act.put, List.setIfInBounds_toArray, List.set_cons_zero, List.set_cons_succ]
 refine Late.done (by kernel_rfl) ?_ _
 clear s0 s1 s2 s3 hS
 rotate_left
 go_simp
 refine hK.out _ _ (fun _ => HSA.out _ ((KT.out.alloc _).alloc _) ((KS.out.alloc _).alloc _)) (fun hS' => ?_)
 have hS := hS' (by decide)
 clear hS' hK
 clear K'
 try simp only [Act.put, List.setIfInBounds_toArray, List.set_cons_zero, List.set_cons_succ]
 refine Late.one (i := 5) (by kernel_rfl) (by rfl) (fun K' hK => ?_)
 go_simp
 have QX := Lib.hid (show Below w2.heap.size w2 (((w2.alloc (.cells #[.string x] 9)).alloc (.cells #[.int .i64 K, .int .i64 W, .int .i64 T, .int .i64 m, .int .i64 f, .int .i64 a, .int .i64 s] 29)).drew) from (((Below.refl _ _).alloc (Nat.le_refl _) _).alloc (by simp) _).drew)
 have QZ := Lib.hid (QX.out.size)
 refine (insT_end A1 L.1.length c1 W3.heap.size (w2.heap.size) (texts L.1) [.string x] (((w2.alloc (.cells #[.string x] 9)).alloc (.cells #[.int .i64 K, .int .i64 W, .int .i64 T, .int .i64 m, .int .i64 f, .int .i64 a, .int .i64 s] 29)).drew) (ownsRow_below Q1.out QX.out) (Nat.le_trans HZ3.out QZ.out) HN1.out rfl (by simp [Value.oneCell']) (blkNews ((Blk.Blk.new w2 _ _).alloc _))).mono ?_
 rintro e w5 ⟨A5, c5, rfl, o5, g5⟩
 have PA := ownsRow_below Q1.out QX.out
 have KT5 := Lib.hid (blkFar (KT.out.belowS QX.out) PA g5)
 have KR5 := Lib.hid (blkFar (KR.out.belowS QX.out) PA g5)
 have KS5 := Lib.hid (blkFar (KS.out.belowS QX.out) PA g5)
 have Q2' := Lib.hid (LvT.rowKept (ownsRow_below Q2.out QX.out) PA (by decide) g5)
 have O5 := Lib.hid o5
 have HB5 := Lib.hid (HB.out.trans ((QX.out.mono HZW.out).trans (grown_below g5 (fun q e => Nat.le_trans HW3.out (ownsRow_block PA e).choose_spec.2.1) (Nat.le_trans HZW.out QZ.out))))
 have hz5 : w2.heap.size ≤ w5.heap.size := Nat.le_trans QZ.out g5.size
 (have KN := Lib.hid (blkFar (show Blk.Blk (((w2.alloc (.cells #[.string x] 9)).alloc (.cells #[.int .i64 K, .int .i64 W, .int .i64 T, .int .i64 m, .int .i64 f, .int .i64 a, .int .i64 s] 29)).drew) (w2.heap.size + 1) _ _ from Blk.Blk.newAt _ _ (by simp)) PA g5))
 clear o5 g5 PA
 clear QX QZ
 go_simp
 refine hK.out _ _ (fun _ => HSA.out _ (KT5.out) (KS5.out)) (fun hS' => ?_)
 have hS := hS' (by decide)
 clear hS' hK
 clear K'
 try simp only [Act.put, List.setIfInBounds_toArray, List.set_cons_zero, List.set_cons_succ]
 refine Late.take (i := 12) (v := ?_) (by rfl) (by kernel_rfl) (by kernel_rfl) (by kernel_rfl) (by intro _ _ _ h; exact h) (by kernel_rfl) (by kernel_rfl) (Or.inl ⟨by rfl, ?_⟩) hS ?_
 rotate_left
 ·(intro W' hW'; rw [HSE.out] at hW'; obtain ⟨q0, q1, y0, y1, y2, y3, y4, y5, y6⟩ := hW'; go_simp; (try with_reducible rfl))
 try simp only [Act.put, List.setIfInBounds_toArray, List.set_cons_zero, List.set_cons_succ]
 refine Late.one (i := 11) (by kernel_rfl) (by rfl) (fun K' hK => ?_)
 go_simp
 rw [HLN.out]
 have QY := Lib.hid (show Below w5.heap.size w5 (w5) from Below.refl _ _)
 have QZ := Lib.hid (QY.out.size)
 refine (insS_end A2 L.2.length c2 W3.heap.size ((w2.heap.size + 1)) (ints (flat L.2)) [.int .i64 K, .int .i64 W, .int .i64 T, .int .i64 m, .int .i64 f, .int .i64 a, .int .i64 s] (w5) (ownsRow_below Q2'.out QY.out) (Nat.le_trans HZ3.out (Nat.le_trans hz5 QZ.out)) HN2.out rfl (by simp [Value.oneCell']) (blkNews KN.out)).mono ?_
 rintro e w6 ⟨A6, c6, rfl, o6, g6⟩
 have PB := ownsRow_below Q2'.out QY.out
 have KT6 := Lib.hid (blkFar (KT5.out.belowS QY.out) PB g6)
 have KR6 := Lib.hid (blkFar (KR5.out.belowS QY.out) PB g6)
 have KS6 := Lib.hid ((KS5.out.belowS QY.out).kept g6 (fun e => HNE.out (ownsRow_block PB e).choose_spec.2.1))
 have O1 := Lib.hid (LvT.rowKept (ownsRow_below O5.out QY.out) PB (by decide) g6)
 have O2 := Lib.hid o6
 have HB6 := Lib.hid (HB5.out.trans ((QY.out.mono HB5.out.size).trans (grown_below g6 (fun q e => Nat.le_trans HW3.out (ownsRow_block PB e).choose_spec.2.1) (Nat.le_trans HB5.out.size QZ.out))))
 clear o6 g6 PB
 clear QY QZ
 go_simp
 refine hK.out _ _ (fun _ => HSA.out _ (KT6.out) (KS6.out)) (fun hS' => ?_)
 have hS := hS' (by decide)
 clear hS' hK
 clear K'
 try simp only [Act.put, List.setIfInBounds_toArray, List.set_cons_zero, List.set_cons_succ]
 have s0 := KT6.out.at 0 (v := .slice A1 L.1.length c1) rfl
 have s1 := KT6.out.at 1 (v := .slice A2 L.2.length c2) rfl
 have s2 := KT6.out.frz 0
 have s3 := KT6.out.frz 1
 refine Late.one (i := 13) (by kernel_rfl) (by rfl) (fun K' hK => ?_)
 go_simp
 refine hK.out _ _ (fun h => absurd h (by decide)) (fun _ => ?_)
 clear hK
 clear K'
 try simp only [Act.put, List.setIfInBounds_toArray, List.set_cons_zero, List.set_cons_succ]
 refine Late.one (i := 14) (by kernel_rfl) (by rfl) (fun K' hK => ?_)
 go_simp
 refine hK.out _ _ (fun h => absurd h (by decide)) (fun _ => ?_)
 clear hK
 clear K'
 try simp only [Act.put, List.setIfInBounds_toArray, List.set_cons_zero, List.set_cons_succ]
 refine Late.one (i := 15) (by kernel_rfl) (by rfl) (fun K' hK => ?_)
 go_simp
 refine hK.out _ _ (fun h => absurd h (by decide)) (fun _ => ?_)
 clear hK
 clear K'
 try simp only [Act.put, List.setIfInBounds_toArray, List.set_cons_zero, List.set_cons_succ]
 refine Late.done (by kernel_rfl) ?_ _
 clear s0 s1 s2 s3 hS
 rotate_left
 go_simp
 refine hK.out _ _ (fun _ => HSA.out _ (KT.out.alloc _) (KS.out.alloc _)) (fun hS' => ?_)
 have hS := hS' (by decide)
 clear hS' hK
 clear K'
 try simp only [Act.put, List.setIfInBounds_toArray, List.set_cons_zero, List.set_cons_succ]
 refine Late.one (i := 4) (by kernel_rfl) (by rfl) (fun K' hK => ?_)
 go_simp
 refine hK.out _ _ (fun _ => HSA.out _ ((KT.out.alloc _).alloc _) ((KS.out.alloc _).alloc _)) (fun hS' => ?_)
 have hS := hS' (by decide)
 clear hS' hK
 clear K'
 try simp only [Act.put, List.setIfInBounds_toArray, List.set_cons_zero, List.set_cons_succ]
 refine Late.one (i := 5) (by kernel_rfl) (by rfl) (fun K' hK => ?_)
 go_simp
 have QX := Lib.hid (show Below w2.heap.size w2 (((w2.alloc (.cells #[.int .i64 K, .int .i64 W, .int .i64 T, .int .i64 m, .int .i64 f, .int .i64 a, .int .i64 s] 29)).alloc (.cells #[.string x] 9)).drew) from (((Below.refl _ _).alloc (Nat.le_refl _) _).alloc (by simp) _).drew)
 have QZ := Lib.hid (QX.out.size)
 refine (insT_end A1 L.1.length c1 W3.heap.size ((w2.heap.size + 1)) (texts L.1) [.string x] (((w2.alloc (.cells #[.int .i64 K, .int .i64 W, .int .i64 T, .int .i64 m, .int .i64 f, .int .i64 a, .int .i64 s] 29)).alloc (.cells #[.string x] 9)).drew) (ownsRow_below Q1.out QX.out) (Nat.le_trans HZ3.out QZ.out) HN1.out rfl (by simp [Value.oneCell']) (blkNews (Blk.Blk.newAt _ _ (by simp)))).mono ?_
 rintro e w5 ⟨A5, c5, rfl, o5, g5⟩
 have PA := ownsRow_below Q1.out QX.out
 have KT5 := Lib.hid (blkFar (KT.out.belowS QX.out) PA g5)
 have KR5 := Lib.hid (blkFar (KR.out.belowS QX.out) PA g5)
 have KS5 := Lib.hid (blkFar (KS.out.belowS QX.out) PA g5)
 have Q2' := Lib.hid (LvT.rowKept (ownsRow_below Q2.out QX.out) PA (by decide) g5)
 have O5 := Lib.hid o5
 have HB5 := Lib.hid (HB.out.trans ((QX.out.mono HZW.out).trans (grown_below g5 (fun q e => Nat.le_trans HW3.out (ownsRow_block PA e).choose_spec.2.1) (Nat.le_trans HZW.out QZ.out))))
 have hz5 : w2.heap.size ≤ w5.heap.size := Nat.le_trans QZ.out g5.size
 (have KN := Lib.hid (blkFar (show Blk.Blk (((w2.alloc (.cells #[.int .i64 K, .int .i64 W, .int .i64 T, .int .i64 m, .int .i64 f, .int .i64 a, .int .i64 s] 29)).alloc (.cells #[.string x] 9)).drew) w2.heap.size _ _ from (Blk.Blk.new w2 _ _).alloc _) PA g5))
 clear o5 g5 PA
 clear QX QZ
 go_simp
 refine hK.out _ _ (fun _ => HSA.out _ (KT5.out) (KS5.out)) (fun hS' => ?_)
 have hS := hS' (by decide)
 clear hS' hK
 clear K'
 try simp only [Act.put, List.setIfInBounds_toArray, List.set_cons_zero, List.set_cons_succ]
 refine Late.take (i := 12) (v := ?_) (by rfl) (by kernel_rfl) (by kernel_rfl) (by kernel_rfl) (by intro _ _ _ h; exact h) (by kernel_rfl) (by kernel_rfl) (Or.inl ⟨by rfl, ?_⟩) hS ?_
 rotate_left
 ·(intro W' hW'; rw [HSE.out] at hW'; obtain ⟨q0, q1, y0, y1, y2, y3, y4, y5, y6⟩ := hW'; go_simp; (try with_reducible rfl))
 try simp only [Act.put, List.setIfInBounds_toArray, List.set_cons_zero, List.set_cons_succ]
 refine Late.one (i := 11) (by kernel_rfl) (by rfl) (fun K' hK => ?_)
 go_simp
 rw [HLN.out]
 have QY := Lib.hid (show Below w5.heap.size w5 (w5) from Below.refl _ _)
 have QZ := Lib.hid (QY.out.size)
 refine (insS_end A2 L.2.length c2 W3.heap.size (w2.heap.size) (ints (flat L.2)) [.int .i64 K, .int .i64 W, .int .i64 T, .int .i64 m, .int .i64 f, .int .i64 a, .int .i64 s] (w5) (ownsRow_below Q2'.out QY.out) (Nat.le_trans HZ3.out (Nat.le_trans hz5 QZ.out)) HN2.out rfl (by simp [Value.oneCell']) (blkNews KN.out)).mono ?_
 rintro e w6 ⟨A6, c6, rfl, o6, g6⟩
 have PB := ownsRow_below Q2'.out QY.out
 have KT6 := Lib.hid (blkFar (KT5.out.belowS QY.out) PB g6)
 have KR6 := Lib.hid (blkFar (KR5.out.belowS QY.out) PB g6)
 have KS6 := Lib.hid ((KS5.out.belowS QY.out).kept g6 (fun e => HNE.out (ownsRow_block PB e).choose_spec.2.1))
 have O1 := Lib.hid (LvT.rowKept (ownsRow_below O5.out QY.out) PB (by decide) g6)
 have O2 := Lib.hid o6
 have HB6 := Lib.hid (HB5.out.trans ((QY.out.mono HB5.out.size).trans (grown_below g6 (fun q e => Nat.le_trans HW3.out (ownsRow_block PB e).choose_spec.2.1) (Nat.le_trans HB5.out.size QZ.out))))
 clear o6 g6 PB
 clear QY QZ
 go_simp
 refine hK.out _ _ (fun _ => HSA.out _ (KT6.out) (KS6.out)) (fun hS' => ?_)
 have hS := hS' (by decide)
 clear hS' hK
 clear K'
 try simp only [Act.put, List.setIfInBounds_toArray, List.set_cons_zero, List.set_cons_succ]
 have s0 := KT6.out.at 0 (v := .slice A1 L.1.length c1) rfl
 have s1 := KT6.out.at 1 (v := .slice A2 L.2.length c2) rfl
 have s2 := KT6.out.frz 0
 have s3 := KT6.out.frz 1
 refine Late.one (i := 13) (by kernel_rfl) (by rfl) (fun K' hK => ?_)
 go_simp
 refine hK.out _ _ (fun h => absurd h (by decide)) (fun _ => ?_)
 clear hK
 clear K'
 try simp only [Act.put, List.setIfInBounds_toArray, List.set_cons_zero, List.set_cons_succ]
 refine Late.one (i := 14) (by kernel_rfl) (by rfl) (fun K' hK => ?_)
 go_simp
 refine hK.out _ _ (fun h => absurd h (by decide)) (fun _ => ?_)
 clear hK
 clear K'
 try simp only [Act.put, List.setIfInBounds_toArray, List.set_cons_zero, List.set_cons_succ]
 refine Late.one (i := 15) (by kernel_rfl) (by rfl) (fun K' hK => ?_)
 go_simp
 refine hK.out _ _ (fun h => absurd h (by decide)) (fun _ => ?_)
 clear hK
 clear K'
 try simp only [Act.put, List.setIfInBounds_toArray, List.set_cons_zero, List.set_cons_succ]
 refine Late.done (by kernel_rfl) ?_ _
 clear s0 s1 s2 s3 hS
 rotate_left
 all_goals
  obtain ⟨W7, hW7⟩ : ∃ W7, W7 = (w6.setCell ⟨w1.heap.size, 0, none⟩ (.slice A5 (L.1.length + 1) c5)).setCell ⟨w1.heap.size, 1, none⟩ (.slice A6 (L.2.length + 1) c6) := ⟨_, rfl⟩
  have HW7 := Lib.hid hW7
  clear KT KR HB KS Q1 Q2 HSA HSE KT5 KR5 KS5 Q2' O5 HB5
  have KT : Hid (Blk.Blk W7 w1.heap.size 53 #[.slice A5 (L.1.length + 1) c5, .slice A6 (L.2.length + 1) c6]) := Lib.hid (by rw [hW7]; exact (KT6.out.setTo 0 (.slice A5 (L.1.length + 1) c5) rfl).setTo 1 (.slice A6 (L.2.length + 1) c6) rfl)
  have KR : Hid (Blk.Blk W7 (w.heap.size + 2) 53 #[.slice none 0 0, .slice none 0 0]) := Lib.hid (by rw [hW7]; exact (KR6.out.other _ H13.out).other _ H13.out)
  have HB : Hid (Below w.heap.size w W7) := Lib.hid (by rw [hW7]; exact (HB6.out.setCell (p := ⟨w1.heap.size, 0, none⟩) H14.out _).setCell (p := ⟨w1.heap.size, 1, none⟩) H14.out _)
  have P1 : W7.ownsRow W3.heap.size 9 1 (.slice A5 (L.1.length + 1) c5) (L.1.length + 1) (texts L.1 ++ [.string x]) := by rw [hW7]; exact ownsRow_setCell_below' O1.out KT6.out 0 (.slice A5 (L.1.length + 1) c5) 1 (.slice A6 (L.2.length + 1) c6)
  have P2 : W7.ownsRow W3.heap.size 29 7 (.slice A6 (L.2.length + 1) c6) (L.2.length + 1) (ints (flat L.2) ++ [.int .i64 K, .int .i64 W, .int .i64 T, .int .i64 m, .int .i64 f, .int .i64 a, .int .i64 s]) := by rw [hW7]; exact ownsRow_setCell_below' O2.out KT6.out 0 (.slice A5 (L.1.length + 1) c5) 1 (.slice A6 (L.2.length + 1) c6)
  rw [← HTX.out] at P1
  rw [← HFL.out] at P2
  have O1 := Lib.hid (ownsRow_base P1 HW3.out)
  have O2 := Lib.hid (ownsRow_base P2 HW3.out)
  have HV : Hid (∀ W, Below W7.heap.size W7 W → Calls Tryz.prog 26 #[.agg #[.slice A5 (L.1.length + 1) c5, .slice A6 (L.2.length + 1) c6]] W fun e w' => e = .returned (.bool ok) ∧ Below W.heap.size W w') := Lib.hid (fun W hW => by
   have k1 := ownsRow_below O1.out hW
   have k2 := ownsRow_below O2.out hW
   rw [← HL1.out] at k1
   rw [← HL2.out] at k2
   have k := implLab_any A5 A6 c5 c6 W.heap.size nl.length ns (flat nl) W (OwnT.rd k1) (OwnS.rd k2) (Nat.le_refl _) HSN.out (by have := HL1.out; have := HN1.out; omega) (by have := HL2.out; have := HN2.out; omega)
   rw [HL1.out, show labB ns nl.length (flat nl) = ok from HOK.out.symm, HL2.out] at k
   exact k)
  have HY : Hid (∀ (W : World), (W.ownsRow w.heap.size 9 1 (.slice A5 (L.1.length + 1) c5) (L.1.length + 1) (texts ns) ∧ W.ownsRow w.heap.size 29 7 (.slice A6 (L.2.length + 1) c6) (L.2.length + 1) (ints (flat nl)) ∧ Below w.heap.size w W) → ∃ v', Ending.returned (.tuple #[.agg #[.slice A5 (L.1.length + 1) c5, .slice A6 (L.2.length + 1) c6], .bool ok]) = .returned (.tuple #[v', .bool ok]) ∧ LabOwn w.heap.size W v' (ns, nl) ∧ Below w.heap.size w W) := Lib.hid fun W hh2 => ⟨_, rfl, ⟨A5, c5, A6, c6, by rw [HL1.out, HL2.out], by rw [HL1.out]; exact hh2.1, by rw [HL2.out]; exact hh2.2.1⟩, hh2.2.2⟩
  clear P1 P2 hW7 KT6 KR6 KS6 HB6 hz5
  go_wp2_with fail
  rw [← HW7.out]
  refine Rel.wp_region_rel 3 (by kernel_rfl) (by kernel_rfl) (fun F hF => ?_)
  simp only [List.take_succ_cons, List.take_zero, List.drop_succ_cons, List.drop_zero, Rel.putL] at hF ⊢
  have HF := Lib.hid hF
  clear hF
  have uv := @Rel.upon_value Tryz.prog
  have ue := @Rel.upon_enter Tryz.prog
  apply Rel.rel_pure
  apply Exists.intro
  refine ⟨fun vs wq hq hdp R hR => ?_, ?_⟩
  ·(rw [HF.out, Rel.stepAt_eq]; clear hdp; have x0 := (KT.out.belowS hq).at 0 (v := .slice A5 (L.1.length + 1) c5) rfl; have x1 := (KT.out.belowS hq).at 1 (v := .slice A6 (L.2.length + 1) c6) rfl; go_simp; exact hR)
  apply Rel.rel_pure
  apply Exists.intro
  refine ⟨fun vs wq hq hdp R hR => ?_, ?_⟩
  ·(rw [HF.out, Rel.stepAt_eq]; clear hdp; have x0 := (KT.out.belowS hq).at 0 (v := .slice A5 (L.1.length + 1) c5) rfl; have x1 := (KT.out.belowS hq).at 1 (v := .slice A6 (L.2.length + 1) c6) rfl; go_simp; exact hR)
  apply Rel.rel_same
  apply Exists.intro
  refine ⟨fun vs wq hq hdp => ?_, ?_⟩
  ·(rw [HF.out, Rel.stepAt_eq]; have qd1 : vs 1 = _ := Rel.dep hdp 1 (by kernel_rfl); clear hdp; skip; go_simp; refine (HV.out wq hq).mono ?_; rintro e w7 ⟨rfl, hb⟩; exact ⟨_, rfl, rfl, hb⟩)
  refine Rel.rel_end (fun vs wq hq hall => ?_)
  rw [HF.out]
  have qe0 : vs 0 = _ := Rel.fin hall 0 (by decide)
  have qe1 : vs 1 = _ := Rel.fin hall 1 (by decide)
  have qe2 : vs 2 = _ := Rel.fin hall 2 (by decide)
  clear hall HF uv ue
  have KR2 := KR.out.belowS hq
  have HB2 := Base.Below.nextA HB.out hq
  have r0 := KR2.at 0 (v := .slice none 0 0) rfl
  have r1 := KR2.at 1 (v := .slice none 0 0) rfl
  have f0 := KR2.frz 0
  have f1 := KR2.frz 1
  have KK := (KR2.setTo 0 (.slice A5 (L.1.length + 1) c5) rfl).setTo 1 (.slice A6 (L.2.length + 1) c6) rfl
  have k0 := KK.at 0 (v := .slice A5 (L.1.length + 1) c5) rfl
  have k1 := KK.at 1 (v := .slice A6 (L.2.length + 1) c6) rfl
  have HFIN := Lib.hid (And.intro (ownsRow_setCell_below' (ownsRow_below O1.out hq) KR2 0 (.slice A5 (L.1.length + 1) c5) 1 (.slice A6 (L.2.length + 1) c6)) (And.intro (ownsRow_setCell_below' (ownsRow_below O2.out hq) KR2 0 (.slice A5 (L.1.length + 1) c5) 1 (.slice A6 (L.2.length + 1) c6)) ((HB2.setCell (p := ⟨w.heap.size + 2, 0, none⟩) (by simp) (.slice A5 (L.1.length + 1) c5)).setCell (p := ⟨w.heap.size + 2, 1, none⟩) (by simp) (.slice A6 (L.2.length + 1) c6))))
  clear KK KR2 HB2 hq qe1
  go_wp2
  refine bodyPost_ret (v := .tuple #[.agg #[.slice A5 (L.1.length + 1) c5, .slice A6 (L.2.length + 1) c6], .bool ok]) (by simp [results, Tryz.results139, go_sem, k0, k1]) rfl ?_
  exact HY.out _ ⟨HFIN.out.1, HFIN.out.2.1, HFIN.out.2.2⟩
end Go.Proofs.YtgipnbeipfhekaaGreatDoor.LcW

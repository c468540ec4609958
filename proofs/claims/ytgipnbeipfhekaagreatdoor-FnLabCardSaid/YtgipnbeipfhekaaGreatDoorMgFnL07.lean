/- The reference's naturals: digits to the base 2^30 in memory; a number made, sums. -/
import Derived.Test.YtgipnbeipfhekaaGreatDoorMgFnL06
import Derived.Test.YtgipnbeipfhekaaGreatDoorMgFnL00
import Derived.Test.YtgipnbeipfhekaaGreatDoorMgFnL01
import Derived.StillTail
import Derived.Deep.Cut
import Derived.Deep.QuietTactic
import Derived.BigQuiet
import Derived.Test.YtgipnbeipfhekaaGreatDoorMgFnL02
set_option linter.unusedVariables false
set_option linter.unusedSimpArgs false
set_option maxHeartbeats 1000000
namespace Go.Proofs.YtgipnbeipfhekaaGreatDoor
namespace Big
open Go.RowKit Base Mem BigM
def zs (xs : List Nat) : List Int := xs.map Int.ofNat
theorem zs_len (xs : List Nat) : (zs xs).length = xs.length := by simp [zs]
theorem zs_get (xs : List Nat) (i : Nat) : (zs xs).getD i 0 = ((xs.getD i 0 : Nat) : Int) := by
 simp only [zs, List.getD_eq_getElem?_getD, List.getElem?_map]
 cases xs[i]? <;> rfl
theorem zs_snoc (xs : List Nat) (d : Nat) : ints (zs xs) ++ [.int .i64 (d : Int)] = ints (zs (xs ++ [d])) := by simp [zs, ints]
def Dig (w : World) (B : Nat) (v : Value) (xs : List Nat) : Prop := w.ownsRow B 2 1 v xs.length (ints (zs xs))
def IsB (w : World) (x : Nat) (v : Value) : Prop := Dig w 0 v (bigL x)
theorem Dig.form {w : World} {B : Nat} {v : Value} {xs : List Nat} (h : Dig w B v xs) : ∃ A c, v = .slice A xs.length c ∧ (0 < xs.length → ∃ g, A = some ⟨g, 0, none⟩ ∧ B ≤ g ∧ g < w.heap.size) := ownsRow_form h
theorem Dig.below {w w' : World} {B : Nat} {v : Value} {xs : List Nat} (h : Dig w B v xs) (hb : Below w.heap.size w w') : Dig w' B v xs := ownsRow_below h hb
theorem Dig.base {w : World} {B B' : Nat} {v : Value} {xs : List Nat} (h : Dig w B v xs) (hb : B' ≤ B) : Dig w B' v xs := ownsRow_base h hb
theorem Dig.cell {w : World} {B n c : Nat} {A : Option Addr} {xs : List Nat} (h : Dig w B (.slice A n c) xs) {i : Nat} (hi : i < xs.length) : ∃ g, A = some ⟨g, 0, none⟩ ∧ B ≤ g ∧ g < w.heap.size ∧ w.cell? ⟨g, i, none⟩ = some (.int .i64 ((xs.getD i 0 : Nat) : Int)) := by
 obtain ⟨A', c', e, hf⟩ := h.form
 injection e with e1 e2 e3
 subst e1 e2 e3
 obtain ⟨g, rfl, h1, h2⟩ := hf (by omega)
 refine ⟨g, rfl, h1, h2, ?_⟩
 rw [World.ownsRow.cellAt h i (by omega), ints_get _ i (by rw [zs_len]; exact hi), zs_get]
theorem Dig.take {w : World} {B n c : Nat} {A : Option Addr} {xs : List Nat} (h : Dig w B (.slice A n c) xs) {k : Nat} (hk : k ≤ xs.length) : Dig w B (.slice A k c) (xs.take k) := by
 obtain ⟨A', c', e, hf⟩ := h.form
 injection e with e1 e2 e3
 subst e1 e2 e3
 unfold Dig at h ⊢
 rw [List.length_take, Nat.min_eq_left hk]
 refine ⟨by rw [ints_len, zs_len, List.length_take, Nat.min_eq_left hk, Nat.mul_one], ?_⟩
 rcases h.2 with ⟨h0, h1⟩ | ⟨g, cap, cur, e, h1, hh, h2⟩
 ·injection h0 with e1 e2 e3
  subst e1 e3
  have : k = 0 := by omega
  subst this
  refine .inl ⟨rfl, ?_⟩
  first | rfl | omega
 ·injection e with e1 e2 e3
  subst e1 e3
  refine .inr ⟨g, c, cur, rfl, h1, hh, by omega, h2.2.1, h2.2.2.1, ?_⟩
  have h3 := h2.2.2.2
  simp only [Nat.mul_one] at h3 ⊢
  have h4 := congrArg (List.take k) h3
  rw [List.take_take, Nat.min_eq_left hk] at h4
  rw [h4]
  simp only [zs, ints, List.map_take]
theorem IsB.below {w w' : World} {x : Nat} {v : Value} (h : IsB w x v) (hb : Below w.heap.size w w') : IsB w' x v := Dig.below h hb
theorem Dig.push {w wr w3 : World} {v v' : Value} {ys : List Nat} {d : Nat} {cs : Array Value} {t : TypeId} (hO : Dig wr w.heap.size v ys) (hb : Below w.heap.size w wr)
  (hown : w3.ownsRow w.heap.size 2 1 v' (ys.length + 1) (ints (zs ys) ++ [.int .i64 (d : Int)])) (hg : (wr.alloc (.cells cs t)).grownBy w3 v.ownBlock) : Dig w3 w.heap.size v' (ys ++ [d]) ∧ Below w.heap.size w w3 := by
 refine ⟨?_, ?_⟩
 ·unfold Dig
  rw [List.length_append, List.length_singleton, ← zs_snoc]
  exact hown
 ·exact (hb.alloc hb.size _).trans (grown_below hg (fun g e => by
   obtain ⟨_, _, h1, _⟩ := ownsRow_block hO e
   exact h1) (by simp; have := hb.size; omega))
end Big
namespace Fine
open Go.RowKit Base Mem RatM Two Blk
end Fine
namespace Rel
open Go.RowKit Base
section
variable {P : Program} {ops : Array Oper} {md : Region.Mode}
def upon (P : Program) (R : Value → World → Prop) : Result Next → Prop
 | .ok (.value u) w' => R u w'
 | .ok .skip w' => R undef w'
 | .ok (.enter f args) w' => Calls P f args w' fun e w'' => ∃ v, e = .returned v ∧ R v w''
 | _ => False
def stepAt (P : Program) (o : Oper) (a : Act) (w : World) (R : Value → World → Prop) : Prop := upon P R ((execOp a.eval o).run P w)
theorem wp_of_step {o : Oper} {a : Act} {w : World} {R : Value → World → Prop} {K : Act → World → Prop} {Q : Exit → Act → World → Prop} (h : stepAt P o a w R) (hK : ∀ v w', R v w' → K (a.put o.dst v) w') : o.wp P a w K Q := by
 unfold stepAt at h
 unfold Oper.wp
 generalize (execOp a.eval o).run P w = r at *
 cases r with
 | ok n w' =>
  cases n <;> simp only [upon] at h <;> simp only [Oper.upon]
  case value u => exact hK _ _ h
  case skip => exact hK _ _ h
  case enter f args => exact h.mono fun e w'' ⟨v, he, hv⟩ => by subst he; exact hK _ _ hv
 | halt x w' => simp only [upon] at h
abbrev Fam := Nat → Value → World → Prop
def putL : List Oper → Nat → (Nat → Value) → Act → Act
 | [], _, _, a => a
 | o :: r, k, vs, a => putL r (k + 1) vs (a.put o.dst (vs k))
def deps (md : Region.Mode) (G : Fam) (vs : Nat → Value) (w : World) (o : Oper) : Prop := ∀ e ∈ o.after, Region.binds md e = true → G e.on (vs e.on) w
def setG (G : Fam) (k : Nat) (S : Value → World → Prop) : Fam := fun j => if j = k then S else G j
def Mono (S : Value → World → Prop) : Prop := ∀ v w w', S v w → Below w.heap.size w w' → S v w'
def allG (G : Fam) (vs : Nat → Value) (w : World) : Nat → Prop
 | 0 => True
 | k + 1 => allG G vs w k ∧ G k (vs k) w
def wpRel (P : Program) (md : Region.Mode) (F : (Nat → Value) → Act) (W : World) (K : Act → World → Prop) : List Oper → Nat → Fam → Prop
 | [], k, G => ∀ vs w, Below W.heap.size W w → allG G vs w k → K (F vs) w
 | o :: r, k, G => ∃ S, Mono S ∧ (∀ vs w, Below W.heap.size W w → deps md G vs w o → stepAt P o (F vs) w (fun v w' => S v w' ∧ Below w.heap.size w w')) ∧ wpRel P md F W K r (k + 1) (setG G k S)
def edgesB (md : Region.Mode) (ops : Array Oper) (n : Nat) : Bool :=
 (List.range n).all fun i => ((ops[i]?).map fun o => o.after.all (fun e => !Region.binds md e || decide (e.on < i)) && o.guard.isNone).getD false
def dstsB (ops : Array Oper) (n : Nat) : Bool :=
 (List.range n).all fun i => (List.range i).all fun j => match (ops[i]?).bind (·.dst), (ops[j]?).bind (·.dst) with
  | some d, some d' => d != d'
  | _, _ => true
def headL (n m : Nat) : Array Bool := (Array.range m).map fun i => decide (i < n)
def relB (md : Region.Mode) (ops : Array Oper) (n : Nat) : Bool :=
 decide (n ≤ ops.size) && edgesB md ops n && dstsB ops n && (decide (n = ops.size) || (decide (n < ops.size) && Region.sinkB md ops n && Region.chainB md ops n)) && Region.seqB md ops (ops.size - n) n (headL n ops.size)
theorem edges_spec {n i : Nat} {o : Oper} (h : edgesB md ops n = true) (hi : i < n) (ho : ops[i]? = some o) : (∀ e ∈ o.after, Region.binds md e = true → e.on < i) ∧ o.guard = none := by
 have h1 := List.all_eq_true.1 h i (List.mem_range.2 hi)
 rw [ho] at h1
 simp only [Option.map_some, Option.getD_some, Bool.and_eq_true, Array.all_eq_true_iff_forall_mem, Bool.or_eq_true, Bool.not_eq_true', decide_eq_true_eq, Option.isNone_iff_eq_none] at h1
 exact ⟨fun e he hb => (h1.1 e he).resolve_left (by simp [hb]), h1.2⟩
theorem dsts_spec {n i j : Nat} {d d' : Tmp} (h : dstsB ops n = true) (hi : i < n) (hj : j < n) (hij : i ≠ j) (hd : (ops[i]?).bind (·.dst) = some d) (hd' : (ops[j]?).bind (·.dst) = some d') : d ≠ d' := by
 have key : ∀ {i j : Nat} {d d' : Tmp}, i < n → j < i → (ops[i]?).bind (·.dst) = some d → (ops[j]?).bind (·.dst) = some d' → d ≠ d' := by
  intro i j d d' hi hj hd hd'
  have h1 := List.all_eq_true.1 h i (List.mem_range.2 hi)
  have h2 := List.all_eq_true.1 h1 j (List.mem_range.2 hj)
  rw [hd, hd'] at h2
  simpa using h2
 rcases Nat.lt_or_gt_of_ne hij with h1 | h1
 ·exact (key hj h1 hd' hd).symm
 ·exact key hi h1 hd hd'
theorem put_self (a : Act) (d : Tmp) : a.put (some d) (a.tmps.getD d undef) = a := by
 unfold Act.put
 have : a.tmps.setIfInBounds d (a.tmps.getD d undef) = a.tmps := by
  apply Array.ext
  ·simp
  ·intro i h1 h2
   rw [Array.getElem_setIfInBounds]
   split
   ·rename_i e; subst e; simp [h2]
   ·rfl
 show ({ a with tmps := a.tmps.setIfInBounds d (a.tmps.getD d undef) } : Act) = a
 rw [this]
theorem put_put (a : Act) (d : Option Tmp) (u v : Value) : (a.put d u).put d v = a.put d v := by
 cases d with
 | none => rfl
 | some d => simp [Act.put]
theorem put_swap (a : Act) {d d' : Option Tmp} (u v : Value) (h : d = none ∨ d' = none ∨ d ≠ d') : (a.put d u).put d' v = (a.put d' v).put d u := by
 cases d with
 | none => rfl
 | some d =>
  cases d' with
  | none => rfl
  | some d' =>
   have hne : d ≠ d' := by
    rcases h with h | h | h
    ·cases h
    ·cases h
    ·exact fun e => h (by rw [e])
   simp only [Act.put]
   rw [Array.setIfInBounds_comm _ _ hne]
theorem putL_out : ∀ (l : List Oper) (k : Nat) (vs : Nat → Value) (a : Act) (d : Option Tmp) (v : Value), (∀ o ∈ l, d = none ∨ o.dst = none ∨ d ≠ o.dst) → (putL l k vs a).put d v = putL l k vs (a.put d v)
 | [], _, _, _, _, _, _ => rfl
 | o :: r, k, vs, a, d, v, h => by
  rw [putL, putL, putL_out r (k + 1) vs _ d v fun o' ho' => h o' (by simp [ho'])]
  congr 1
  refine (put_swap a _ _ ?_)
  rcases h o (by simp) with h | h | h
  ·exact .inr (.inl h)
  ·exact .inl h
  ·exact .inr (.inr h.symm)
theorem putL_congr : ∀ (l : List Oper) (k : Nat) (vs vs' : Nat → Value) (a : Act), (∀ j, k ≤ j → vs j = vs' j) → putL l k vs a = putL l k vs' a
 | [], _, _, _, _, _ => rfl
 | o :: r, k, vs, vs', a, h => by
  rw [putL, putL, h k (Nat.le_refl _)]
  exact putL_congr r (k + 1) vs vs' _ fun j hj => h j (by omega)
theorem putL_put : ∀ (l : List Oper) (k i : Nat) (vs : Nat → Value) (a : Act) (o : Oper) (v : Value), l[i]? = some o → (∀ j oj, l[j]? = some oj → j ≠ i → o.dst = none ∨ oj.dst = none ∨ o.dst ≠ oj.dst) →
  (putL l k vs a).put o.dst v = putL l k (fun j => if j = k + i then v else vs j) a
 | [], _, _, _, _, _, _, h, _ => by cases h
 | o' :: r, k, 0, vs, a, o, v, h, hd => by
  obtain rfl : o' = o := by simpa using h
  rw [putL, putL, putL_out r (k + 1) vs _ o'.dst v fun oj hoj => by
   obtain ⟨j, hj⟩ := List.getElem?_of_mem hoj
   exact hd (j + 1) oj (by simpa using hj) (by omega), put_put]
  simp only [Nat.add_zero, if_true]
  exact putL_congr r (k + 1) _ _ _ fun j hj => by rw [if_neg (by omega)]
 | o' :: r, k, i + 1, vs, a, o, v, h, hd => by
  rw [putL, putL, putL_put r (k + 1) i vs _ o v (by simpa using h) fun j oj hj hne => hd (j + 1) oj (by simpa using hj) (by omega)]
  rw [if_neg (by omega)]
  congr 1
  funext j
  rw [show k + 1 + i = k + (i + 1) by omega]
theorem putL_same : ∀ (l : List Oper) (k : Nat) (vs : Nat → Value) (a : Act), (∀ i o d, l[i]? = some o → o.dst = some d → vs (k + i) = a.tmps.getD d undef) → putL l k vs a = a
 | [], _, _, _, _ => rfl
 | o :: r, k, vs, a, h => by
  have e : a.put o.dst (vs k) = a := by
   cases hd : o.dst with
   | none => rfl
   | some d =>
    have := h 0 o d (by simp) hd
    rw [Nat.add_zero] at this
    rw [this]; exact put_self a d
  rw [putL, e]
  exact putL_same r (k + 1) vs a fun i o' d hi hd => by
   have := h (i + 1) o' d (by simpa using hi) hd
   rw [show k + 1 + i = k + (i + 1) by omega]; exact this
theorem wpRel_spec {F : (Nat → Value) → Act} {W : World} {K : Act → World → Prop} : ∀ (l : List Oper) (k : Nat) (G : Fam), (∀ i o, l[i]? = some o → ∀ e ∈ o.after, Region.binds md e = true → e.on < k + i) → wpRel P md F W K l k G →
  ∃ G' : Fam, (∀ j, j < k → G' j = G j) ∧ (∀ i o, l[i]? = some o → Mono (G' (k + i)) ∧ ∀ vs w, Below W.heap.size W w → deps md G' vs w o → stepAt P o (F vs) w (fun v w' => G' (k + i) v w' ∧ Below w.heap.size w w')) ∧
   (∀ vs w, Below W.heap.size W w → allG G' vs w (k + l.length) → K (F vs) w)
 | [], k, G, _, h => ⟨G, fun _ _ => rfl, fun i o hi => (by cases hi), h⟩
 | o :: r, k, G, hed, h => by
  obtain ⟨S, hM, hst, hr⟩ := h
  obtain ⟨G', h1, h2, h3⟩ := wpRel_spec r (k + 1) (setG G k S) (fun i o' hi e he hb => by have := hed (i + 1) o' (by simpa using hi) e he hb; omega) hr
  have hk : G' k = S := by rw [h1 k (by omega)]; unfold setG; rw [if_pos rfl]
  refine ⟨G', fun j hj => ?_, fun i o' hi => ?_, fun vs w hw ha => h3 vs w hw (by rw [show k + 1 + r.length = k + (o :: r).length by simp; omega]; exact ha)⟩
  ·rw [h1 j (by omega)]; unfold setG; rw [if_neg (by omega)]
  ·cases i with
   | zero =>
    obtain rfl : o = o' := by simpa using hi
    rw [Nat.add_zero, hk]
    refine ⟨hM, fun vs w hw hdp => hst vs w hw fun e he hb => ?_⟩
    have := hdp e he hb
    have hlt := hed 0 o (by simp) e he hb
    rw [h1 e.on (by omega)] at this
    unfold setG at this
    rwa [if_neg (by omega)] at this
   | succ i =>
    have := h2 i o' (by simpa using hi)
    rw [show k + 1 + i = k + (i + 1) by omega] at this
    exact this
theorem allG_of {G : Fam} {vs : Nat → Value} {w : World} : ∀ (k : Nat), (∀ i, i < k → G i (vs i) w) → allG G vs w k
 | 0, _ => trivial
 | k + 1, h => ⟨allG_of k fun i hi => h i (by omega), h k (by omega)⟩
theorem count_zero {n : Nat} {listed : Array Bool} (h : (List.range n).countP (fun i => !listed.getD i false) = 0) : ∀ i, i < n → listed.getD i false = true := fun i hi => by
 have := List.countP_eq_zero.1 h i (List.mem_range.2 hi)
 simpa using this
theorem count_pos {n f : Nat} {listed : Array Bool} (h : (List.range n).countP (fun i => !listed.getD i false) = f + 1) : ∃ i, i < n ∧ listed.getD i false = false ∧ ∀ j, j < i → listed.getD j false = true := by
 have hex : ∃ i, i < n ∧ listed.getD i false = false := by
  refine Classical.byContradiction fun hc => ?_
  have : (List.range n).countP (fun i => !listed.getD i false) = 0 := List.countP_eq_zero.2 fun i hi => by
   have hi := List.mem_range.1 hi
   cases hb : listed.getD i false
   ·exact absurd ⟨i, hi, hb⟩ hc
   ·simp
  omega
 obtain ⟨i, hi, hb⟩ := hex
 induction i using Nat.strongRecOn with
 | _ i ih =>
  by_cases hall : ∀ j, j < i → listed.getD j false = true
  ·exact ⟨i, hi, hb, hall⟩
  ·obtain ⟨j, hj⟩ := Classical.not_forall.1 hall
   obtain ⟨hj1, hj2⟩ := Classical.not_imp.1 hj
   exact ih j hj1 (by omega) (by simpa using hj2)
theorem count_set {n f i : Nat} {listed : Array Bool} (hi : i < n) (hs : n ≤ listed.size) (hb : listed.getD i false = false) (h : (List.range n).countP (fun i => !listed.getD i false) = f + 1) : (List.range n).countP (fun j => !(listed.setIfInBounds i true).getD j false) = f := by
 have key : ∀ m, m ≤ n → (List.range m).countP (fun j => !listed.getD j false) = (List.range m).countP (fun j => !(listed.setIfInBounds i true).getD j false) + (if i < m then 1 else 0) := by
  intro m
  induction m with
  | zero => intro _; simp
  | succ m ih =>
   intro hm
   have := ih (by omega)
   rw [List.range_succ, List.countP_append, List.countP_append, this]
   by_cases him : i = m
   ·subst him
    have h1 : (listed.setIfInBounds i true).getD i false = true := by simp [show i < listed.size by omega]
    rw [List.countP_singleton, List.countP_singleton, h1, hb]
    simp
   ·have e : (if i < m + 1 then 1 else 0 : Nat) = if i < m then 1 else 0 := by
     by_cases hlt : i < m
     ·rw [if_pos hlt, if_pos (by omega)]
     ·rw [if_neg hlt, if_neg (by omega)]
    rw [List.countP_singleton, List.countP_singleton, getD_set_ne false him, e]
    omega
 have := key n (Nat.le_refl _)
 rw [if_pos hi] at this
 omega
theorem headL_get (n m i : Nat) (h : n ≤ m) : (headL n m).getD i false = decide (i < n) := by
 unfold headL
 by_cases hi : i < m
 ·simp [hi]
 ·simp [hi]; omega
theorem listed_ext {n : Nat} {listed : Array Bool} (inv : HeadInv md ops n listed) (hn : n ≤ ops.size) (h : ∀ i, i < n → listed.getD i false = true) : listed = headL n ops.size := by
 apply Array.ext
 ·simp [headL, inv.size]
 ·intro i h1 h2
  have hi : i < ops.size := by rw [inv.size] at h1; exact h1
  have e1 : listed.getD i false = listed[i] := by simp [h1]
  have e2 := headL_get n ops.size i hn
  have e3 : (headL n ops.size).getD i false = (headL n ops.size)[i] := by simp [h2]
  rw [← e1, ← e3, e2]
  by_cases hlt : i < n
  ·rw [h i hlt]; simp [hlt]
  ·have := inv.tail i (by omega) hi
   rw [getD_both this]; simp [hlt]
structure RInv (md : Region.Mode) (ops : Array Oper) (n : Nat) (G : Fam) (hd : List Oper) (a0 : Act) (W : World) (listed : Array Bool) (a : Act) (w : World) : Prop where
 inv : HeadInv md ops n listed
 cls : Below W.heap.size W w
 vals : ∃ vs, a = putL hd 0 vs a0 ∧ ∀ i, i < n → listed.getD i false = true → G i (vs i) w
theorem wpAny_rel {n : Nat} {G : Fam} {a0 : Act} {W : World} {Q : Exit → Act → World → Prop} {l : List Oper} (hB : relB md l.toArray n = true)
  (h2 : ∀ i o, (l.take n)[i]? = some o → Mono (G i) ∧ ∀ vs w, Below W.heap.size W w → deps md G vs w o → stepAt P o (putL (l.take n) 0 vs a0) w (fun v w' => G i v w' ∧ Below w.heap.size w w'))
  (h3 : ∀ vs w, Below W.heap.size W w → allG G vs w n → wpList P l.toArray Q (l.drop n) (putL (l.take n) 0 vs a0) w) :
  ∀ (f : Nat) (listed : Array Bool) (a : Act) (w : World), RInv md l.toArray n G (l.take n) a0 W listed a w → (List.range n).countP (fun i => !listed.getD i false) = f → wpAny P md l.toArray Q (f + (l.toArray.size - n)) listed a w := by
 simp only [relB, Bool.and_eq_true, Bool.or_eq_true, decide_eq_true_eq] at hB
 obtain ⟨⟨⟨⟨hn, hed⟩, hds⟩, htl⟩, hsq⟩ := hB
 have hnl : n ≤ l.length := by simpa using hn
 have hdl : (l.drop n).length = l.toArray.size - n := by simp
 intro f
 induction f with
 | zero =>
  intro listed a w hI hc
  have hall := count_zero hc
  have e := listed_ext hI.inv hn hall
  obtain ⟨vs, rfl, hv⟩ := hI.vals
  rw [Nat.zero_add, ← hdl]
  refine wpAny_of_seq (l.drop n) n listed _ w (fun j => by simp [List.getElem?_drop]) ?_ (h3 vs w hI.cls (allG_of n fun i hi => hv i hi (hall i hi)))
  rw [hdl, e]; exact hsq
 | succ f ih =>
  intro listed a w hI hc
  obtain ⟨i0, hi0, hb0, hbefore⟩ := count_pos hc
  have hsz := hI.inv.size
  have hrdy : i0 ∈ Region.ready md l.toArray listed := by
   have hlt : i0 < l.toArray.size := by omega
   refine mem_ready.2 ⟨getD_in (by omega) hb0, l.toArray[i0], by simp, fun e he hb => ?_⟩
   exact hbefore _ ((edges_spec hed hi0 (by simp)).1 e he hb)
  rw [show f + 1 + (l.toArray.size - n) = (f + (l.toArray.size - n)) + 1 by omega]
  refine ⟨fun h => (by rw [h] at hrdy; cases hrdy), fun i hi => ?_⟩
  have hin : i < n := by
   rcases Nat.lt_or_ge i n with h | h
   ·exact h
   ·rcases htl with htl | htl
    ·obtain ⟨_, o, ho, _⟩ := mem_ready.1 hi
     have := (Array.getElem?_eq_some_iff.1 ho).1
     omega
    ·exact absurd hi (tail_waits htl.1.2 htl.2 htl.1.1 hI.inv _ i0 rfl hi0 (getD_in (by omega) hb0) i h)
  obtain ⟨hun, o, ho, hall⟩ := mem_ready.1 hi
  obtain ⟨hlow, hgd⟩ := edges_spec hed hin ho
  have hli : (l.take n)[i]? = some o := by
   rw [List.getElem?_take, if_pos hin]; simpa using ho
  obtain ⟨vs, rfl, hv⟩ := hI.vals
  obtain ⟨hM, hst⟩ := h2 i o hli
  have hstep := hst vs w hI.cls fun e he hb => hv e.on (by have := hlow e he hb; omega) (hall e he hb)
  have hw : Region.wanted o (yielded l.toArray (putL (l.take n) 0 vs a0).tmps) = true := by simp [Region.wanted, hgd]
  unfold wpOp
  rw [ho]
  simp only [hw, if_true]
  refine .inl (wp_of_step hstep fun v w' ⟨hv', hbw⟩ => ?_)
  refine ih _ _ _ ⟨hI.inv.set hi hin, hI.cls.trans (hbw.mono hI.cls.size), fun j => if j = 0 + i then v else vs j, ?_, fun j hj hl => ?_⟩ (count_set hin (by omega) (getD_both hun) hc)
  ·refine putL_put (l.take n) 0 i vs a0 o v hli fun j oj hj hne => ?_
   cases hd : o.dst with
   | none => exact .inl rfl
   | some d =>
    cases hd' : oj.dst with
    | none => exact .inr (.inl rfl)
    | some d' =>
     have hjn : j < n := by
      have := (List.getElem?_eq_some_iff.1 hj).1
      simp at this; omega
     have hj' : l[j]? = some oj := by rw [List.getElem?_take, if_pos hjn] at hj; exact hj
     have ho' : l[i]? = some o := by simpa using ho
     refine .inr (.inr fun e => dsts_spec hds hin hjn (Ne.symm hne) (d := d) (d' := d') (by simp [ho', hd]) (by simp [hj', hd']) (Option.some.inj e))
  ·by_cases hji : j = i
   ·subst hji
    show G j (if j = 0 + j then v else vs j) w'
    rw [if_pos (by omega)]; exact hv'
   ·show G j (if j = 0 + i then v else vs j) w'
    rw [if_neg (by omega)]
    rw [getD_set_ne false (Ne.symm hji)] at hl
    have hjn : j < (l.take n).length := by simp; omega
    exact (h2 j _ (List.getElem?_eq_getElem hjn)).1 _ _ _ (hv j hj hl) hbw
theorem wp_region_rel {id : Nat} {Q : Exit → Act → World → Prop} {a : Act} {W : World} {l : List Oper} (n : Nat) (hm : P.follows .mixedOrders = true) (hB : relB .any l.toArray n = true)
  (h : ∀ F : (Nat → Value) → Act, (∀ vs, F vs = putL (l.take n) 0 vs a) → wpRel P .any F W (wpList P l.toArray Q (l.drop n)) (l.take n) 0 (fun _ _ _ => True)) : (Code.region id l.toArray true).wp P Q a W := by
 have hB' := hB
 simp only [relB, Bool.and_eq_true, Bool.or_eq_true, decide_eq_true_eq] at hB'
 obtain ⟨⟨⟨⟨hn, hed⟩, hds⟩, htl⟩, hsq⟩ := hB'
 have hnl : n ≤ l.length := by simpa using hn
 have hlen : (l.take n).length = n := by simp; omega
 obtain ⟨G, _, h2, h3⟩ := wpRel_spec (l.take n) 0 _ (fun i o hi e he hb => by
  have hin : i < n := by
   have := (List.getElem?_eq_some_iff.1 hi).1
   rwa [hlen] at this
  have ho : l.toArray[i]? = some o := by rw [List.getElem?_take, if_pos hin] at hi; simpa using hi
  rw [Nat.zero_add]
  exact (edges_spec hed hin ho).1 e he hb) (h (fun vs => putL (l.take n) 0 vs a) fun _ => rfl)
 simp only [Nat.zero_add, hlen] at h2 h3
 refine wp_region_any hm ?_
 have inv0 : HeadInv .any l.toArray n (Array.replicate l.toArray.size false) :=
  ⟨by simp, fun j oj _ hl => (by rw [getD_replicate_false] at hl; cases hl), fun t _ ht => getD_in (by simpa using ht) (getD_replicate_false _ _)⟩
 have hc : (List.range n).countP (fun i => !(Array.replicate l.toArray.size false).getD i false) = n := by
  rw [List.countP_eq_length.2 fun i _ => by rw [getD_replicate_false]; rfl]
  simp
 have := wpAny_rel hB h2 h3 n _ a W.drew ⟨inv0, (Below.refl _ _).drew, fun i => (((l.take n)[i]?.bind (·.dst)).map fun d => a.tmps.getD d undef).getD undef, ?_, fun i _ hl => (by rw [getD_replicate_false] at hl; cases hl)⟩ hc
 ·rw [show n + (l.toArray.size - n) = l.toArray.size by omega] at this
  exact this
 ·refine (putL_same (l.take n) 0 _ a fun i o d hi hd => ?_).symm
  simp only [Nat.zero_add, hi, Option.bind_some, hd, Option.map_some, Option.getD_some]
variable {r : List Oper} {F : (Nat → Value) → Act} {W : World} {K : Act → World → Prop} {o : Oper} {k : Nat} {G : Fam}
theorem rel_pure (h : ∃ c : Value, (∀ vs w, Below W.heap.size W w → deps md G vs w o → ∀ R : Value → World → Prop, R c w → stepAt P o (F vs) w R) ∧ wpRel P md F W K r (k + 1) (setG G k fun v _ => v = c)) : wpRel P md F W K (o :: r) k G :=
 let ⟨c, h1, h2⟩ := h
 ⟨fun v _ => v = c, fun _ _ _ h _ => h, fun vs w hw hd => h1 vs w hw hd _ ⟨rfl, Below.refl _ _⟩, h2⟩
theorem rel_law {S : Value → World → Prop} (hM : Mono S) (h : ∀ vs w, Below W.heap.size W w → deps md G vs w o → stepAt P o (F vs) w fun v w' => S v w' ∧ Below w.heap.size w w') (hr : wpRel P md F W K r (k + 1) (setG G k S)) : wpRel P md F W K (o :: r) k G :=
 ⟨S, hM, h, hr⟩
theorem rel_same (h : ∃ c : Value, (∀ vs w, Below W.heap.size W w → deps md G vs w o → stepAt P o (F vs) w fun v w' => v = c ∧ Below w.heap.size w w') ∧ wpRel P md F W K r (k + 1) (setG G k fun v _ => v = c)) : wpRel P md F W K (o :: r) k G :=
 let ⟨c, h1, h2⟩ := h
 ⟨fun v _ => v = c, fun _ _ _ h _ => h, h1, h2⟩
theorem rel_end (h : ∀ vs w, Below W.heap.size W w → allG G vs w k → K (F vs) w) : wpRel P md F W K [] k G := h
theorem dep {vs : Nat → Value} {w : World} (hd : deps md G vs w o) (j : Nat) (h : (o.after.any fun e => Region.binds md e && e.on == j) = true) : G j (vs j) w := by
 obtain ⟨e, he, hb⟩ := Array.any_eq_true'.1 h
 simp only [Bool.and_eq_true, beq_iff_eq] at hb
 obtain ⟨h1, rfl⟩ := hb
 exact hd e he h1
theorem fin {vs : Nat → Value} {w : World} : ∀ {n : Nat}, allG G vs w n → ∀ (i : Nat), i < n → G i (vs i) w
 | 0, _, i, h => absurd h (Nat.not_lt_zero i)
 | n + 1, ha, i, h => by
  rcases Nat.lt_succ_iff_lt_or_eq.1 h with h | h
  ·exact fin ha.1 i h
  ·subst h; exact ha.2
theorem stepAt_eq (P : Program) (o : Oper) (a : Act) (w : World) (R : Value → World → Prop) : stepAt P o a w R = upon P R ((execOp a.eval o).run P w) := rfl
theorem upon_value (P : Program) (R : Value → World → Prop) (u : Value) (w : World) : upon P R (.ok (.value u) w) = R u w := rfl
theorem upon_enter (P : Program) (R : Value → World → Prop) (f : FuncId) (args : Array Value) (w : World) : upon P R (.ok (.enter f args) w) = Calls P f args w fun e w'' => ∃ v, e = .returned v ∧ R v w'' := rfl
attribute [irreducible] stepAt upon wpRel
end
end Rel
namespace Fine
open Go.RowKit Base Mem RatM Two Blk
end Fine
namespace LvW
open Go.RowKit Base Mem RatM BigM Big Fine Blk LvQ LvT
def Y6.put (w : World) (b : Nat) (v0 v1 v2 v3 v4 v5 : Value) : World := (((((w.setCell ⟨b, 0, none⟩ v0).setCell ⟨b, 1, none⟩ v1).setCell ⟨b, 2, none⟩ v2).setCell ⟨b, 3, none⟩ v3).setCell ⟨b, 4, none⟩ v4).setCell ⟨b, 5, none⟩ v5
theorem Y6.other {w : World} {b b' : Nat} {t : TypeId} {cs : Array Value} (K : Blk w b' t cs) (hne : b ≠ b') (v0 v1 v2 v3 v4 v5 : Value) : Blk (Y6.put w b v0 v1 v2 v3 v4 v5) b' t cs :=
 (((((K.other v0 hne).other v1 hne).other v2 hne).other v3 hne).other v4 hne).other v5 hne
theorem Y6.below {w0 w : World} {b B : Nat} (h : Below B w0 w) (hb : B ≤ b) (v0 v1 v2 v3 v4 v5 : Value) : Below B w0 (Y6.put w b v0 v1 v2 v3 v4 v5) :=
 (((((h.setCell (p := ⟨b, 0, none⟩) hb v0).setCell (p := ⟨b, 1, none⟩) hb v1).setCell (p := ⟨b, 2, none⟩) hb v2).setCell (p := ⟨b, 3, none⟩) hb v3).setCell (p := ⟨b, 4, none⟩) hb v4).setCell (p := ⟨b, 5, none⟩) hb v5
end LvW
namespace LvW
open Go.RowKit Base Mem RatM BigM Big Fine Blk LvQ LvT
def nD (n x : Nat) : Int := numQ (dy n x)
def dD (n x : Nat) : Int := denQ (dy n x)
end LvW
namespace LvX
open Go.RowKit Base Two Blk
end LvX
namespace Inv
open Go.RowKit Base Mem
end Inv
namespace NatM
def B32 : Nat := 4294967296
def val : List Nat → Nat
 | [] => 0
 | x :: xs => x + B32 * val xs
def okN (xs : List Nat) : Prop := ∀ x ∈ xs, x < B32
theorem val_append : ∀ (xs ys : List Nat), val (xs ++ ys) = val xs + B32 ^ xs.length * val ys
 | [], ys => by simp [val]
 | x :: xs, ys => by
  rw [List.cons_append, val, val, val_append xs ys, List.length_cons, Nat.pow_succ, Nat.mul_add, ← Nat.mul_assoc, Nat.mul_comm B32 (B32 ^ xs.length), Nat.add_assoc]
theorem val_lt : ∀ (xs : List Nat), okN xs → val xs < B32 ^ xs.length
 | [], _ => by simp [val]
 | x :: xs, h => by
  have h1 := val_lt xs fun y hy => h y (by simp [hy])
  have h2 := h x (by simp)
  rw [val, List.length_cons, Nat.pow_succ, Nat.mul_comm (B32 ^ xs.length)]
  have h3 : val xs + 1 ≤ B32 ^ xs.length := h1
  have h4 := Nat.mul_le_mul_left B32 h3
  rw [Nat.mul_add] at h4
  omega
def natL (x : Nat) : List Nat := if h : x = 0 then [] else x % B32 :: natL (x / B32)
termination_by x
decreasing_by exact Nat.div_lt_self (Nat.pos_of_ne_zero h) (by decide)
theorem natL_zero : natL 0 = [] := by rw [natL]; simp
theorem natL_pos {x : Nat} (h : x ≠ 0) : natL x = x % B32 :: natL (x / B32) := by
 conv => lhs; rw [natL]
 simp [h]
theorem natL_val (x : Nat) : val (natL x) = x := by
 induction x using Nat.strongRecOn with
 | _ x ih =>
  by_cases h : x = 0
  ·subst h; rw [natL_zero]; rfl
  ·rw [natL_pos h, val, ih (x / B32) (Nat.div_lt_self (Nat.pos_of_ne_zero h) (by decide))]
   exact Nat.mod_add_div x B32
theorem natL_ok (x : Nat) : okN (natL x) := by
 induction x using Nat.strongRecOn with
 | _ x ih =>
  by_cases h : x = 0
  ·subst h; rw [natL_zero]; intro y hy; cases hy
  ·rw [natL_pos h]
   intro y hy
   rcases List.mem_cons.1 hy with rfl | hy
   ·exact Nat.mod_lt _ (by decide)
   ·exact ih (x / B32) (Nat.div_lt_self (Nat.pos_of_ne_zero h) (by decide)) y hy
def canon (xs : List Nat) : Prop := okN xs ∧ ∀ n, xs.length = n + 1 → xs.getD n 0 ≠ 0
theorem okN_cons {x : Nat} {xs : List Nat} (h : okN (x :: xs)) : okN xs := fun y hy => h y (by simp [hy])
theorem canon_natL : ∀ {xs : List Nat}, canon xs → natL (val xs) = xs
 | [], _ => natL_zero
 | x :: xs, h => by
  have hx := h.1 x (by simp)
  have hc : canon xs := ⟨okN_cons h.1, fun n hn => by have := h.2 (n + 1) (by simp [hn]); simpa [List.getD] using this⟩
  have hne : val (x :: xs) ≠ 0 := by
   intro h0
   rw [val] at h0
   rcases xs with _ | ⟨y, ys⟩
   ·have := h.2 0 rfl
    simp [List.getD] at this
    omega
   ·have hy : val (y :: ys) = 0 := by
     have : B32 * val (y :: ys) = 0 := by omega
     rcases Nat.mul_eq_zero.1 this with h1 | h1
     ·exact absurd h1 (by decide)
     ·exact h1
    have e := canon_natL hc
    rw [hy, natL_zero] at e
    cases e
  rw [natL_pos hne]
  have hm : val (x :: xs) % B32 = x := by rw [val, Nat.add_mul_mod_self_left, Nat.mod_eq_of_lt hx]
  have hd : val (x :: xs) / B32 = val xs := by rw [val, Nat.add_mul_div_left _ _ (by decide : 0 < B32), Nat.div_eq_of_lt hx, Nat.zero_add]
  rw [hm, hd, canon_natL hc]
theorem natL_canon (x : Nat) : canon (natL x) := by
 refine ⟨natL_ok x, ?_⟩
 induction x using Nat.strongRecOn with
 | _ x ih =>
  intro n hn
  by_cases h : x = 0
  ·subst h; rw [natL_zero] at hn; cases hn
  ·rw [natL_pos h] at hn ⊢
   have hlt := Nat.div_lt_self (Nat.pos_of_ne_zero h) (show 1 < B32 by decide)
   rcases n with _ | n
   ·simp only [List.length_cons] at hn
    have h0 : (natL (x / B32)).length = 0 := by omega
    have h1 : natL (x / B32) = [] := List.eq_nil_of_length_eq_zero h0
    have h2 : x / B32 = 0 := by rw [← natL_val (x / B32), h1]; rfl
    have h3 := Nat.mod_add_div x B32
    rw [h2] at h3
    simp [List.getD]
    omega
   ·have := ih (x / B32) hlt n (by simp only [List.length_cons] at hn; omega)
    simpa [List.getD] using this
theorem okN_take {xs : List Nat} (h : okN xs) (n : Nat) : okN (xs.take n) := fun y hy => h y (List.mem_of_mem_take hy)
theorem val_snoc (xs : List Nat) (y : Nat) : val (xs ++ [y]) = val xs + B32 ^ xs.length * y := by
 rw [val_append]; simp [val]
theorem val_take_succ (xs : List Nat) (k : Nat) (h : k < xs.length) : val (xs.take (k + 1)) = val (xs.take k) + B32 ^ k * xs.getD k 0 := by
 rw [List.take_succ_eq_append_getElem h, val_snoc, List.length_take, Nat.min_eq_left (Nat.le_of_lt h)]
 simp [List.getD, h]
theorem trim_done {xs : List Nat} {n : Nat} (hok : okN xs) (hn : n ≤ xs.length) (hv : val (xs.take n) = val xs) (hl : n = 0 ∨ xs.getD (n - 1) 0 ≠ 0) : xs.take n = natL (val xs) := by
 rw [← hv]
 refine (canon_natL ⟨okN_take hok n, fun m hm => ?_⟩).symm
 rw [List.length_take, Nat.min_eq_left hn] at hm
 rcases hl with h0 | h0
 ·omega
 ·have e : n - 1 = m := by omega
  rw [e] at h0
  have : (xs.take n).getD m 0 = xs.getD m 0 := by simp [List.getD, show m < n by omega]
  rw [this]; exact h0
theorem trim_step {xs : List Nat} {n : Nat} (hn : n + 1 ≤ xs.length) (hv : val (xs.take (n + 1)) = val xs) (h0 : xs.getD n 0 = 0) : val (xs.take n) = val xs := by
 rw [val_take_succ xs n (by omega), h0] at hv
 omega
theorem val_cmp {xs ys : List Nat} (hl : xs.length = ys.length) (hx : okN xs) (hy : okN ys) : ∀ (n : Nat), n ≤ xs.length → (∀ j, n ≤ j → j < xs.length → xs.getD j 0 = ys.getD j 0) → (val xs < val ys ↔ val (xs.take n) < val (ys.take n)) ∧ (val xs = val ys ↔ val (xs.take n) = val (ys.take n)) := by
 intro n hn
 obtain ⟨d, hd⟩ : ∃ d, xs.length = n + d := ⟨xs.length - n, by omega⟩
 induction d generalizing n with
 | zero =>
  intro _
  rw [List.take_of_length_le (by omega), List.take_of_length_le (by omega)]
  exact ⟨Iff.rfl, Iff.rfl⟩
 | succ d ih =>
  intro he
  have h1 := ih (n + 1) (by omega) (by omega) (fun j hj hj2 => he j (by omega) hj2)
  have e := he n (Nat.le_refl _) (by omega)
  rw [val_take_succ xs n (by omega), val_take_succ ys n (by omega), e] at h1
  refine ⟨h1.1.trans ?_, h1.2.trans ?_⟩ <;> omega
theorem cmp_lt {xs ys : List Nat} (hl : xs.length = ys.length) (hx : okN xs) (hy : okN ys) {n : Nat} (hn : n < xs.length) (he : ∀ j, n + 1 ≤ j → j < xs.length → xs.getD j 0 = ys.getD j 0) (h : xs.getD n 0 < ys.getD n 0) : val xs < val ys := by
 refine (val_cmp hl hx hy (n + 1) (by omega) he).1.2 ?_
 rw [val_take_succ xs n hn, val_take_succ ys n (by omega)]
 have h1 := val_lt _ (okN_take hx n)
 rw [List.length_take, Nat.min_eq_left (by omega)] at h1
 have h2 := Nat.mul_le_mul_left (B32 ^ n) (show xs.getD n 0 + 1 ≤ ys.getD n 0 from h)
 rw [Nat.mul_add, Nat.mul_one] at h2
 omega
theorem natL_len_lt {x y : Nat} (h : (natL x).length < (natL y).length) : x < y := by
 have h1 := val_lt _ (natL_ok x)
 rw [natL_val] at h1
 obtain ⟨n, hn⟩ : ∃ n, (natL y).length = n + 1 := ⟨(natL y).length - 1, by omega⟩
 have h2 := (natL_canon y).2 n hn
 have h3 := val_take_succ (natL y) n (by omega)
 rw [List.take_of_length_le (by omega), natL_val] at h3
 have h4 : B32 ^ (natL x).length ≤ B32 ^ n := Nat.pow_le_pow_right (by decide) (by omega)
 have h5 : B32 ^ n * 1 ≤ B32 ^ n * (natL y).getD n 0 := Nat.mul_le_mul_left _ (by omega)
 omega
theorem natL_len_le {x k : Nat} (h : x < B32 ^ k) : (natL x).length ≤ k := by
 rcases Nat.lt_or_ge k (natL x).length with hl | hl
 ·obtain ⟨n, hn⟩ : ∃ n, (natL x).length = n + 1 := ⟨(natL x).length - 1, by omega⟩
  have h2 := (natL_canon x).2 n hn
  have h3 := val_take_succ (natL x) n (by omega)
  rw [List.take_of_length_le (by omega), natL_val] at h3
  have h4 : B32 ^ k ≤ B32 ^ n := Nat.pow_le_pow_right (by decide) (by omega)
  have h5 : B32 ^ n * 1 ≤ B32 ^ n * (natL x).getD n 0 := Nat.mul_le_mul_left _ (by omega)
  omega
 ·exact hl
end NatM
namespace Nat32
open Go.RowKit Base Mem NatM
def RdU (w : World) (B : Nat) (A : Option Addr) (xs : List Nat) : Prop :=
 0 < xs.length → ∃ b off, A = some ⟨b, off, none⟩ ∧ b < B ∧ ∀ i, i < xs.length → w.cell? ⟨b, off + i, none⟩ = some (.int .u32 ((xs.getD i 0 : Nat) : Int))
theorem RdU.below {w w' : World} {B C : Nat} {A : Option Addr} {xs : List Nat} (h : RdU w B A xs) (hb : Below C w w') (hBC : B ≤ C) : RdU w' B A xs := fun h0 => by
 obtain ⟨b, off, e, hlt, hc⟩ := h h0
 exact ⟨b, off, e, hlt, fun i hi => (hb.cell (p := ⟨b, off + i, none⟩) (by show b < C; omega)).trans (hc i hi)⟩
theorem RdU.more {w : World} {B C : Nat} {A : Option Addr} {xs : List Nat} (h : RdU w B A xs) (hBC : B ≤ C) : RdU w C A xs := fun h0 => by
 obtain ⟨b, off, e, hlt, hc⟩ := h h0
 exact ⟨b, off, e, by omega, hc⟩
theorem RdU.take {w : World} {B n : Nat} {A : Option Addr} {xs : List Nat} (h : RdU w B A xs) (hn : n ≤ xs.length) : RdU w B A (xs.take n) := fun h0 => by
 rw [List.length_take, Nat.min_eq_left hn] at h0
 obtain ⟨b, off, e, hlt, hc⟩ := h (by omega)
 refine ⟨b, off, e, hlt, fun i hi => ?_⟩
 rw [List.length_take, Nat.min_eq_left hn] at hi
 rw [hc i (by omega)]
 simp [List.getD, hi]
theorem RdU.drewN {w : World} {B : Nat} {A : Option Addr} {xs : List Nat} (h : RdU w B A xs) (n : Nat) : RdU (w.drewN n) B A xs := h.below (below_drewN (Below.refl B w) n) (Nat.le_refl _)
def NRet (x : Nat) (w : World) (e : Ending) (w' : World) : Prop := ∃ A c, e = .returned (.slice A (natL x).length c) ∧ RdU w' w'.heap.size A (natL x) ∧ Below w.heap.size w w'
def TrimRet (A : Option Addr) (c x : Nat) (w : World) (e : Ending) (w' : World) : Prop := e = .returned (.slice A (natL x).length c) ∧ w = w'
theorem trim_any (A : Option Addr) (c B : Nat) (xs : List Nat) (w : World) (hx : RdU w B A xs) (hok : okN xs) (hl : xs.length ≤ 10000000) (hc : xs.length ≤ c) (hc2 : c ≤ 9223372036854775807) :
  Calls Tryz.prog 199 #[.slice A xs.length c] w (TrimRet A c (val xs) w) := by
 have HX := J hx
 have HOk := J hok
 have h0 : Hid (val (xs.take xs.length) = val xs) := J (by rw [List.take_of_length_le (Nat.le_refl _)])
 clear hx hok
 go_enter Tryz.func199, Tryz.ntmps199
 go_wp2
 go_loop [3] (fun nv => ∃ n : Nat, n ≤ xs.length ∧ nv = .int .i64 (n : Int) ∧ Hid (val (xs.take n) = val xs)) (fun nv => (intOf nv).toNat)
 case atStart => exact ⟨xs.length, Nat.le_refl _, rfl, h0⟩
 case round =>
  obtain ⟨n, hn, rfl, hv⟩ := hrel
  clear h0
  by_cases hpos : 0 < n
  ·obtain ⟨m, rfl⟩ : ∃ m, n = m + 1 := ⟨n - 1, by omega⟩
   obtain ⟨b, off, rfl, _, hcell⟩ := HX.out (by omega)
   have g := hcell m (by omega)
   clear hcell
   by_cases hz : xs.getD m 0 = 0
   ·have HN := J (trim_step hn hv.out hz)
    rw [hz] at g
    clear hz
    go_wp2
    go_round
    case rel => exact ⟨m, by omega, rfl, HN⟩
    case measure => simp [intOf]
   ·have HT := J (trim_done HOk.out hn hv.out (.inr (by simpa using hz)))
    have hlen : Hid ((natL (val xs)).length = m + 1) := J (by rw [← HT.out, List.length_take, Nat.min_eq_left hn])
    have hzb : (((xs.getD m 0 : Nat) : Int) == 0) = false := by simp only [beq_eq_false_iff_ne]; omega
    have hmc : ((m : Int) + 1 ≤ (c : Int)) := by omega
    clear hz
    generalize xs.getD m 0 = y at *
    go_wp2
    go_ret
    exact ⟨by rw [hlen.out]; rfl, rfl⟩
  ·obtain rfl : n = 0 := by omega
   have HT := J (trim_done HOk.out hn hv.out (.inl rfl))
   have hlen : Hid ((natL (val xs)).length = 0) := J (by rw [← HT.out]; simp)
   rcases A with _ | ad
   ·go_wp2
    go_ret
    exact ⟨by rw [hlen.out]; rfl, rfl⟩
   ·go_wp2
    go_ret
    exact ⟨by rw [hlen.out]; rfl, rfl⟩
theorem NRet.of {x : Nat} {w w' : World} {A : Option Addr} {c : Nat} {xs : List Nat} (h : RdU w' w'.heap.size A xs) (hx : xs.take (natL x).length = natL x) (hl : (natL x).length ≤ xs.length) (hb : Below w.heap.size w w') : NRet x w (.returned (.slice A (natL x).length c)) w' :=
 ⟨A, c, rfl, by have := h.take hl; rwa [hx] at this, hb⟩
theorem natL_take {xs : List Nat} (hok : okN xs) : xs.take (natL (val xs)).length = natL (val xs) ∧ (natL (val xs)).length ≤ xs.length := by
 have key : ∀ n, n ≤ xs.length → val (xs.take n) = val xs → xs.take (natL (val xs)).length = natL (val xs) ∧ (natL (val xs)).length ≤ xs.length := by
  intro n
  induction n with
  | zero =>
   intro hn hv
   have h := trim_done hok hn hv (.inl rfl)
   have hl : (natL (val xs)).length = 0 := by rw [← h]; simp
   rw [hl, h]
   exact ⟨rfl, Nat.zero_le _⟩
  | succ n ih =>
   intro hn hv
   by_cases hz : xs.getD n 0 = 0
   ·exact ih (by omega) (trim_step hn hv hz)
   ·have h := trim_done hok hn hv (.inr (by simpa using hz))
    have hl : (natL (val xs)).length = n + 1 := by rw [← h, List.length_take, Nat.min_eq_left hn]
    rw [hl, h]
    exact ⟨rfl, hn⟩
 exact key xs.length (Nat.le_refl _) (by rw [List.take_of_length_le (Nat.le_refl _)])
theorem naturalOf_any (n : Nat) (hn : n < 9223372036854775808) (w : World) : Calls Tryz.prog 157 #[.int .i64 (n : Int)] w (NRet n w) := by
 go_enter Tryz.func157, Tryz.ntmps157
 have hm : n % B32 < B32 := Nat.mod_lt _ (by decide)
 have hd : n / B32 < B32 := by unfold B32; omega
 have hok : okN [n % B32, n / B32] := by
  intro x hx
  simp only [List.mem_cons, List.not_mem_nil, or_false] at hx
  rcases hx with rfl | rfl
  ·exact hm
  ·exact hd
 have hv : val [n % B32, n / B32] = n := by
  simp only [val, Nat.mul_zero, Nat.add_zero]
  exact Nat.mod_add_div n B32
 have hW : RdU (w.alloc (.cells #[.int .u32 ((n : Int) % 4294967296), .int .u32 ((n : Int) / 4294967296)] 221)) (w.heap.size + 1) (some ⟨w.heap.size, 0, none⟩) [n % B32, n / B32] := fun _ => by
  refine ⟨w.heap.size, 0, rfl, Nat.lt_succ_self _, fun i hi => ?_⟩
  have hi2 : i < 2 := hi
  have : i = 0 ∨ i = 1 := by omega
  rcases this with rfl | rfl
  ·rw [World.cell?_alloc_new]; simp [B32]
  ·rw [World.cell?_alloc_new]; simp [B32]
 have HT := J (trim_any (some ⟨w.heap.size, 0, none⟩) 2 (w.heap.size + 1) [n % B32, n / B32] _ hW hok (by simp) (by simp) (by decide))
 rw [hv] at HT
 have hB : Below w.heap.size w (w.alloc (.cells #[.int .u32 ((n : Int) % 4294967296), .int .u32 ((n : Int) / 4294967296)] 221)) := (Below.refl _ _).alloc (Nat.le_refl _) _
 have hk := natL_take hok
 rw [hv] at hk
 have HR := J (NRet.of (x := n) (w := w) (c := 2) (hW.more (by simp)) hk.1 hk.2 hB)
 clear hm hd hok hv hW hB hk
 go_wp2_with fail
 refine HT.out.mono ?_
 rintro e w1 ⟨rfl, rfl⟩
 go_wp2
 go_ret
 exact HR.out
def CmpR (x y : Nat) (r : Int) : Prop := (x < y → r < 0) ∧ (x = y → r = 0) ∧ (y < x → 0 < r)
def CmpRet (x y : Nat) (w : World) (e : Ending) (w' : World) : Prop := ∃ r : Int, e = .returned (.int .i64 r) ∧ CmpR x y r ∧ Drawn w w'
theorem compare_any (x y : Nat) (A A' : Option Addr) (c c' B B' : Nat) (w : World) (hx : RdU w B A (natL x)) (hy : RdU w B' A' (natL y)) (hl : (natL x).length ≤ 10000000) (hl' : (natL y).length ≤ 10000000) :
  Calls Tryz.prog 204 #[.slice A (natL x).length c, .slice A' (natL y).length c'] w (CmpRet x y w) := by
 have HX := J hx
 have HY := J hy
 have vx := natL_val x
 have vy := natL_val y
 have ox := natL_ok x
 have oy := natL_ok y
 have l1 := @natL_len_lt x y
 have l2 := @natL_len_lt y x
 generalize hxs : natL x = xs at *
 generalize hys : natL y = ys at *
 have HV := J (And.intro vx vy)
 have HO := J (And.intro ox oy)
 by_cases hlen : xs.length = ys.length
 ·have heq : ((xs.length : Int) != (ys.length : Int)) = false := by simp [hlen]
  have HL := J hlen
  have hle : (ys.length : Int) = (xs.length : Int) := by omega
  have HLe := J hle
  clear hx hy vx vy ox oy l1 l2 hlen hxs hys hle
  go_enter Tryz.func204, Tryz.ntmps204
  go_wp2
  go_loopw [5] (fun iv wr => ∃ n : Nat, n ≤ xs.length ∧ iv = .int .i64 ((n : Int) - 1) ∧ Hid (∀ j, n ≤ j → j < xs.length → xs.getD j 0 = ys.getD j 0) ∧ Drawn w wr) (fun iv _ => (intOf iv + 1).toNat)
  case atStart => exact ⟨xs.length, Nat.le_refl _, rfl, J (fun j h1 h2 => absurd h2 (by omega)), Drawn.refl _⟩
  case round =>
   obtain ⟨n, hn, rfl, he, hD⟩ := hrel
   have HD := J hD
   clear hD
   by_cases hpos : 0 < n
   ·obtain ⟨m, rfl⟩ : ∃ m, n = m + 1 := ⟨n - 1, by omega⟩
    obtain ⟨b, off, rfl, _, hc⟩ := (HX.out.below (HD.out.below (B := B)) (Nat.le_refl _)) (by omega)
    obtain ⟨b', off', rfl, _, hc'⟩ := (HY.out.below (HD.out.below (B := B')) (Nat.le_refl _)) (by have := HL.out; omega)
    have g := hc m (by omega)
    have g' := hc' m (by have := HL.out; omega)
    have hmy : m < ys.length := by have := HL.out; omega
    clear hc hc'
    have e1 : (((m + 1 : Nat) : Int) - 1) = (m : Int) := by omega
    rw [e1]
    have i0 : (0 : Int) ≤ (m : Int) := Int.natCast_nonneg _
    have i1 : (m : Int) < (xs.length : Int) := by omega
    have i2 : (m : Int) < (ys.length : Int) := by omega
    clear e1
    by_cases hz : xs.getD m 0 = ys.getD m 0
    ·have HN : Hid (∀ j, m ≤ j → j < xs.length → xs.getD j 0 = ys.getD j 0) := J fun j h1 h2 => by
      rcases Nat.lt_or_ge m j with h | h
      ·exact he.out j (by omega) h2
      ·rw [show j = m by omega]; exact hz
     rw [hz] at g
     clear hz
     have hb : (((ys.getD m 0 : Nat) : Int) != ((ys.getD m 0 : Nat) : Int)) = false := by simp
     generalize ys.getD m 0 = y1 at *
     go_wp2
     go_quiet (fail)
     go_wp2
     go_roundw
     case rel => exact ⟨m, by omega, by congr 1, HN, HD.out.next _⟩
     case measure => simp [intOf]
    ·rcases Nat.lt_or_gt_of_ne hz with hlt | hgt
     ·have HR := J (cmp_lt (n := m) HL.out HO.out.1 HO.out.2 (by omega) (fun j h1 h2 => he.out j h1 h2) hlt)
      have hb : (((xs.getD m 0 : Nat) : Int) != ((ys.getD m 0 : Nat) : Int)) = true := bne_iff_ne.2 (by omega)
      have hb2 : decide (((xs.getD m 0 : Nat) : Int) < ((ys.getD m 0 : Nat) : Int)) = true := decide_eq_true (by omega)
      have hb3 : decide (xs.getD m 0 < ys.getD m 0) = true := decide_eq_true hlt
      clear hz hlt
      generalize xs.getD m 0 = x1 at *
      generalize ys.getD m 0 = y1 at *
      go_wp2
      go_quiet (fail)
      go_wp2
      go_quiet (fail)
      go_wp2
      go_ret
      exact ⟨-1, rfl, by rw [HV.out.1, HV.out.2] at HR; exact ⟨fun _ => by decide, fun h => absurd h (Nat.ne_of_lt HR.out), fun h => absurd h (Nat.lt_asymm HR.out)⟩, (HD.out.next _).next _⟩
     ·have HR := J (cmp_lt (n := m) HL.out.symm HO.out.2 HO.out.1 (by omega) (fun j h1 h2 => (he.out j h1 (by have := HL.out; omega)).symm) hgt)
      have hb : (((xs.getD m 0 : Nat) : Int) != ((ys.getD m 0 : Nat) : Int)) = true := bne_iff_ne.2 (by omega)
      have hb2 : decide (((xs.getD m 0 : Nat) : Int) < ((ys.getD m 0 : Nat) : Int)) = false := decide_eq_false (by omega)
      have hb3 : decide (xs.getD m 0 < ys.getD m 0) = false := decide_eq_false (by omega)
      clear hz hgt
      generalize xs.getD m 0 = x1 at *
      generalize ys.getD m 0 = y1 at *
      go_wp2
      go_quiet (fail)
      go_wp2
      go_quiet (fail)
      go_wp2
      go_ret
      exact ⟨1, rfl, by rw [HV.out.1, HV.out.2] at HR; exact ⟨fun h => absurd h (Nat.lt_asymm HR.out), fun h => absurd h.symm (Nat.ne_of_lt HR.out), fun _ => by decide⟩, (HD.out.next _).next _⟩
   ·obtain rfl : n = 0 := by omega
    have HE := J ((val_cmp HL.out HO.out.1 HO.out.2 0 (Nat.zero_le _) he.out).2.2 (by simp))
    go_wp2
    go_ret
    exact ⟨0, rfl, by rw [HV.out.1, HV.out.2] at HE; have := HE.out; exact ⟨fun h => absurd this (Nat.ne_of_lt h), fun _ => rfl, fun h => absurd this.symm (Nat.ne_of_lt h)⟩, HD.out⟩
 ·have heq : ((xs.length : Int) != (ys.length : Int)) = true := by simp; omega
  have HR : Hid (CmpR x y ((xs.length : Int) - (ys.length : Int))) := J (by
   rcases Nat.lt_or_gt_of_ne hlen with h | h
   ·have := l1 h
    exact ⟨fun _ => by omega, fun _ => by omega, fun _ => by omega⟩
   ·have := l2 h
    exact ⟨fun _ => by omega, fun _ => by omega, fun _ => by omega⟩)
  clear hx hy vx vy ox oy l1 l2 hlen hxs hys
  go_enter Tryz.func204, Tryz.ntmps204
  go_wp2
  go_ret
  exact ⟨_, rfl, HR.out, Drawn.refl _⟩
theorem u64_or (a b : Nat) (ha : a < 18446744073709551616) (hb : b < 18446744073709551616) : bits .or .u64 (a : Int) (b : Int) = ((a ||| b : Nat) : Int) := by
 have hx : a ||| b < 2 ^ 64 := Nat.or_lt_two_pow (by omega) (by omega)
 have e : ∀ z : Nat, z < 18446744073709551616 → (BitVec.ofInt 64 (z : Int)).toNat = z := fun z hz => by
  rw [BitVec.ofInt_natCast, BitVec.toNat_ofNat]; exact Nat.mod_eq_of_lt (by omega)
 show IntKind.u64.wrap ((BitVec.ofInt 64 (a : Int) ||| BitVec.ofInt 64 (b : Int)).toNat : Int) = _
 rw [BitVec.toNat_or, e a ha, e b hb, IntKind.wrap_u64]
 omega
theorem wrap64_nat (x : Nat) (h : x < 9223372036854775808) : wrap64 (x : Int) = (x : Int) := by
 unfold wrap64
 omega
theorem or_digit (z y : Nat) (hz : z < 4294967296) (hy : y < 4294967296) : bits .or .u64 (z : Int) ((y : Int) * 4294967296) = ((z + 4294967296 * y : Nat) : Int) := by
 have h := u64_or z (y * 4294967296) (by omega) (by omega)
 rw [show ((y * 4294967296 : Nat) : Int) = (y : Int) * 4294967296 by omega] at h
 rw [h]
 have e := Nat.shiftLeft_add_eq_or_of_lt (show z < 2 ^ 32 by omega) y
 rw [Nat.shiftLeft_eq, show (2 : Nat) ^ 32 = 4294967296 from rfl] at e
 rw [Nat.or_comm, ← e, Nat.add_comm z, Nat.mul_comm 4294967296]
theorem small_yes (x : Nat) (A : Option Addr) (c B : Nat) (w : World) (hx : RdU w B A (natL x)) (h : x ≤ 1000000000000000000) :
  Calls Tryz.prog 198 #[.slice A (natL x).length c] w fun e w' => e = .returned (.tuple #[.int .i64 (x : Int), .bool true]) ∧ w = w' := by
 have hlen : (natL x).length ≤ 2 := natL_len_le (by unfold B32; omega)
 have ok := natL_ok x
 have hv := natL_val x
 have HX := J hx
 generalize hxs : natL x = xs at *
 have HV := J hv
 have HO := J ok
 clear hx hv ok hxs
 go_enter Tryz.func198, Tryz.ntmps198
 go_wp2
 go_loop [12, 4] (fun iv nv => ∃ k : Nat, k ≤ xs.length ∧ iv = .int .i64 (k : Int) ∧ nv = .int .u64 ((val (xs.take k) : Nat) : Int)) (fun iv _ => xs.length - (intOf iv).toNat)
 case atStart => exact ⟨0, Nat.zero_le _, rfl, rfl⟩
 case round =>
  obtain ⟨k, hk, rfl, rfl⟩ := hrel
  by_cases hlt : k < xs.length
  ·have hx1 : xs.getD k 0 < B32 := HO.out _ (by simp [List.getD, hlt])
   obtain ⟨b, off, rfl, _, hc⟩ := HX.out (by omega)
   have g := hc k hlt
   clear hc
   have HS := J (val_take_succ xs k hlt)
   have hk2 : k = 0 ∨ k = 1 := by omega
   rcases hk2 with rfl | rfl
   ·rw [List.take_zero, show val ([] : List Nat) = 0 from rfl] at HS ⊢
    rw [Nat.add_zero] at g
    unfold B32 at hx1
    generalize xs.getD 0 0 = y at *
    have HO2 := J (or_digit 0 y (by decide) hx1)
    have HO1 := J (u64_or 0 y (by decide) (by omega))
    go_wp2
    go_round
    case rel => exact ⟨1, by omega, rfl, by rw [HS.out]; have := HO1.out; rw [Nat.zero_or] at this; rw [show ((0 : Nat) : Int) = 0 from rfl] at this; rw [this]; simp⟩
    case measure => simp [intOf]; omega
   ·unfold B32 at hx1
    have hz1 : val (xs.take 1) < B32 := by
     have := val_lt _ (okN_take HO.out 1)
     rw [List.length_take, Nat.min_eq_left (by omega)] at this
     simpa using this
    unfold B32 at hz1
    generalize xs.getD 1 0 = y at *
    generalize val (xs.take 1) = z at *
    have HO2 := J (or_digit z y hz1 hx1)
    go_wp2
    go_round
    case rel => exact ⟨2, by omega, rfl, by rw [HS.out, HO2.out]; rfl⟩
    case measure => simp [intOf]; omega
  ·obtain rfl : k = xs.length := by omega
   have hvx : val (xs.take xs.length) = x := by rw [List.take_of_length_le (Nat.le_refl _)]; exact HV.out
   rw [hvx]
   have HA := J (u64_and_nat x 9223372036854775807 (by omega) (by decide))
   have hax : x &&& 9223372036854775807 = x := by
    rw [show (9223372036854775807 : Nat) = 2 ^ 63 - 1 from rfl, Nat.and_two_pow_sub_one_eq_mod, Nat.mod_eq_of_lt (by omega)]
   have hw : wrap64 (bits BinOp.and IntKind.u64 (x : Int) 9223372036854775807) = (x : Int) := by
    have h1 := HA.out
    rw [hax] at h1
    rw [show (9223372036854775807 : Int) = ((9223372036854775807 : Nat) : Int) from rfl, h1]
    exact wrap64_nat x (by omega)
   have HX2 := J hw
   have hle : decide ((x : Int) ≤ 1000000000000000000) = true := decide_eq_true (by omega)
   clear hvx hax hw
   go_wp2
   go_ret2
   exact ⟨by show Ending.returned (Value.tuple #[.int .i64 (wrap64 (bits BinOp.and IntKind.u64 (x : Int) 9223372036854775807)), .bool true]) = _; rw [HX2.out], rfl⟩
end Nat32
namespace Nat32
open Go.RowKit Base Mem NatM
def us (xs : List Nat) : List Value := xs.map fun (x : Nat) => Value.int .u32 (x : Int)
theorem us_len (xs : List Nat) : (us xs).length = xs.length := by simp [us]
theorem us_get (xs : List Nat) (i : Nat) (h : i < xs.length) : (us xs)[i]? = some (.int .u32 ((xs.getD i 0 : Nat) : Int)) := by simp [us, List.getD, h]
theorem us_set (xs : List Nat) (i x : Nat) : (us xs).set i (.int .u32 (x : Int)) = us (xs.set i x) := by simp [us, List.map_set]
def OwnU (w : World) (B : Nat) (v : Value) (xs : List Nat) : Prop := w.ownsRow B 221 1 v xs.length (us xs)
theorem OwnU.form {w : World} {B : Nat} {v : Value} {xs : List Nat} (h : OwnU w B v xs) : ∃ A c, v = .slice A xs.length c ∧ (0 < xs.length → ∃ g, A = some ⟨g, 0, none⟩ ∧ B ≤ g ∧ g < w.heap.size) := ownsRow_form h
theorem OwnU.rd {w : World} {B n c : Nat} {A : Option Addr} {xs : List Nat} (h : OwnU w B (.slice A n c) xs) : RdU w w.heap.size A xs := fun h0 => by
 obtain ⟨A', c', e, hf⟩ := ownsRow_form h
 injection e with e1 e2 e3
 subst e1 e2 e3
 obtain ⟨g, rfl, _, hlt⟩ := hf h0
 refine ⟨g, 0, rfl, hlt, fun i hi => ?_⟩
 have h' : w.ownsRow B 221 1 (.slice (some ⟨g, 0, none⟩) xs.length c) xs.length (us xs) := h
 rw [Nat.zero_add, World.ownsRow.cellAt h' i (by omega), us_get xs i hi]
theorem OwnU.below {w w' : World} {B : Nat} {v : Value} {xs : List Nat} (h : OwnU w B v xs) (hb : Below w.heap.size w w') : OwnU w' B v xs := ownsRow_below h hb
theorem OwnU.set {w : World} {B g n c : Nat} {xs : List Nat} (h : OwnU w B (.slice (some ⟨g, 0, none⟩) n c) xs) (hn : xs.length = n) (i x : Nat) :
  OwnU (w.setCell ⟨g, i, none⟩ (.int .u32 (x : Int))) B (.slice (some ⟨g, 0, none⟩) n c) (xs.set i x) ∧ w.grownBy (w.setCell ⟨g, i, none⟩ (.int .u32 (x : Int))) (some g) := by
 subst hn
 unfold OwnU at *
 obtain ⟨h1, h2⟩ := h.stored i (.int .u32 (x : Int))
 rw [us_set] at h1
 rw [List.length_set]
 exact ⟨h1, h2⟩
theorem OwnU.cell {w : World} {B g n c : Nat} {xs : List Nat} (h : OwnU w B (.slice (some ⟨g, 0, none⟩) n c) xs) (hn : xs.length = n) (i : Nat) (hi : i < n) :
  w.cell? ⟨g, i, none⟩ = some (.int .u32 ((xs.getD i 0 : Nat) : Int)) ∧ w.frozen? ⟨g, i, none⟩ = false := by
 subst hn
 have h' : w.ownsRow B 221 1 (.slice (some ⟨g, 0, none⟩) xs.length c) xs.length (us xs) := h
 exact ⟨by rw [World.ownsRow.cellAt h' i (by omega), us_get xs i hi], h'.frozenAt i⟩
theorem OwnU.ge {w : World} {B g n c : Nat} {xs : List Nat} (h : OwnU w B (.slice (some ⟨g, 0, none⟩) n c) xs) : B ≤ g ∧ g < w.heap.size := by
 obtain ⟨_, _, h1, h2⟩ := ownsRow_block (g := g) h rfl
 exact ⟨h1, h2⟩
theorem infoU : (Tryz.prog.info? 221).map (fun i => (i.zero, i.size, i.bytes)) = some (some (.int .u32 0), 1, 4) := by kernel_rfl
def zerosU (n : Nat) : List Nat := List.replicate n 0
theorem made_own (w : World) (n : Nat) (hn : n ≤ 10000000) : OwnU (w.alloc (.cells (madeCells #[.int .u32 0] n) 221)) w.heap.size (.slice (some ⟨w.heap.size, 0, none⟩) n n) (zerosU n) := by
 have := World.ownsRow_lit (e := 221) (size := 1) (base := w.heap.size) w (madeCells #[.int .u32 0] n) n (Nat.le_refl _) (by simp [maxLen]; omega) (by simp [size_madeCells])
 rw [toList_madeCells_one] at this
 unfold OwnU zerosU
 rw [List.length_replicate, show us (List.replicate n 0) = List.replicate n (.int .u32 0) by simp [us]]
 exact this
theorem val_set (ys : List Nat) (i x : Nat) (h : i < ys.length) : val ((ys.set i x).take (i + 1)) = val (ys.take i) + B32 ^ i * x := by
 rw [val_take_succ _ i (by rw [List.length_set]; exact h)]
 have e1 : (ys.set i x).take i = ys.take i := by rw [List.take_set, List.set_eq_of_length_le (by rw [List.length_take]; omega)]
 rw [e1]
 simp [List.getD, h]
theorem okN_set {ys : List Nat} {i x : Nat} (h : i < ys.length) (ho : okN (ys.take i)) (hx : x < B32) : okN ((ys.set i x).take (i + 1)) := by
 have e : (ys.set i x).take (i + 1) = ys.take i ++ [x] := by
  rw [List.take_succ_eq_append_getElem (by rw [List.length_set]; exact h)]
  rw [List.take_set, List.set_eq_of_length_le (by rw [List.length_take]; omega)]
  simp
 rw [e]
 intro y hy
 rcases List.mem_append.1 hy with hy | hy
 ·exact ho y hy
 ·simp only [List.mem_singleton] at hy; rw [hy]; exact hx
theorem up_step {v C x P i vx : Nat} (hC : C < P) (hx : x < B32) (h : v + B32 ^ i * C = vx * P) :
  (C + x * P) / B32 < P ∧ v + B32 ^ i * ((C + x * P) % B32) + B32 ^ (i + 1) * ((C + x * P) / B32) = (vx + B32 ^ i * x) * P := by
 refine ⟨?_, ?_⟩
 ·rw [Nat.div_lt_iff_lt_mul (by decide)]
  have h1 : x * P ≤ (B32 - 1) * P := Nat.mul_le_mul_right _ (by omega)
  rw [Nat.sub_mul, Nat.one_mul] at h1
  have h2 : P ≤ B32 * P := Nat.le_mul_of_pos_left _ (by decide)
  rw [Nat.mul_comm P B32]
  omega
 ·have h3 := Nat.mod_add_div (C + x * P) B32
  rw [Nat.pow_succ, Nat.mul_assoc, Nat.add_assoc, ← Nat.mul_add, h3, Nat.mul_add, Nat.add_mul, ← h, Nat.mul_assoc]
  omega
def UpRel (g s : Nat) (xs : List Nat) (w : World) (iv cv : Value) (wr : World) : Prop :=
 ∃ (i C : Nat) (ys : List Nat), iv = .int .i64 (i : Int) ∧ i ≤ xs.length ∧ cv = .int .u64 (C : Int) ∧ ys.length = xs.length + 1 ∧ C < 2 ^ s ∧ Hid (okN (ys.take i)) ∧ Hid (val (ys.take i) + B32 ^ i * C = val (xs.take i) * 2 ^ s) ∧ Hid (OwnU wr w.heap.size (.slice (some ⟨g, 0, none⟩) (xs.length + 1) (xs.length + 1)) ys) ∧ Hid (Below w.heap.size w wr)
def UpRet (s : Nat) (xs : List Nat) (w : World) (e : Ending) (w' : World) : Prop :=
 ∃ (g : Nat) (ys : List Nat), e = .returned (.slice (some ⟨g, 0, none⟩) (xs.length + 1) (xs.length + 1)) ∧ ys.length = xs.length + 1 ∧ okN ys ∧ val ys = val xs * 2 ^ s ∧ OwnU w' w.heap.size (.slice (some ⟨g, 0, none⟩) (xs.length + 1) (xs.length + 1)) ys ∧ Below w.heap.size w w'
theorem up_any (A : Option Addr) (c B s : Nat) (xs : List Nat) (w : World) (hx : RdU w B A xs) (hB : B ≤ w.heap.size) (hok : okN xs) (hl : xs.length ≤ 4000000) (hs : s ≤ 31) :
  Calls Tryz.prog 250 #[.slice A xs.length c, .int .i64 (s : Int)] w (UpRet s xs w) := by
 have hmk := run_make_row' (P := Tryz.prog) 145 221 (.int .u32 0) 4 Tryz.underlying145 infoU rfl .i64 .i64 (xs.length + 1) (by omega) (by omega)
 have hcast : ((xs.length + 1 : Nat) : Int) = (xs.length : Int) + 1 := by omega
 rw [hcast] at hmk
 have HX := J hx
 have HOk := J hok
 have H0 : Hid (UpRel w.heap.size s xs w (.int .i64 0) (.int .u64 0) (w.alloc (.cells (madeCells #[.int .u32 0] (xs.length + 1)) 221))) :=
  J ⟨0, 0, zerosU (xs.length + 1), rfl, Nat.zero_le _, rfl, by simp [zerosU], Nat.two_pow_pos s, J (by intro y hy; simp at hy), J (by simp [val]), J (made_own w _ (by omega)), J ((Below.refl _ _).alloc (Nat.le_refl _) _)⟩
 clear hx hok hcast
 go_enter Tryz.func250, Tryz.ntmps250
 go_wp2
 clear hmk
 go_loopw [15, 6] (fun iv cv wr => UpRel w.heap.size s xs w iv cv wr) (fun iv _ _ => xs.length - (intOf iv).toNat)
 case atStart => exact H0.out
 case round =>
  obtain ⟨i, C, ys, rfl, hi, rfl, hyl, hC, ho, hv, HO, HBl⟩ := hrel
  clear H0
  by_cases hlt : i < xs.length
  ·have hx1 : xs.getD i 0 < B32 := HOk.out _ (by simp [List.getD, hlt])
   obtain ⟨b, off, rfl, _, hc⟩ := (HX.out.below HBl.out hB) (by omega)
   have gx := hc i hlt
   clear hc
   obtain ⟨gc, gf⟩ := HO.out.cell hyl i (by omega)
   have hvx := val_take_succ xs i hlt
   obtain ⟨q1, q2⟩ := up_step (i := i) hC hx1 hv.out
   rw [← hvx] at q2
   have hP : 2 ^ s ≤ 2 ^ 31 := Nat.pow_le_pow_right (by decide) hs
   have hP0 : 0 < 2 ^ s := Nat.two_pow_pos s
   have hM : xs.getD i 0 * 2 ^ s < 9223372036854775808 := by
    have h1 : xs.getD i 0 * 2 ^ s ≤ 4294967295 * 2147483648 := Nat.mul_le_mul (by unfold B32 at hx1; omega) hP
    omega
   obtain ⟨M, hMe⟩ : ∃ M, M = xs.getD i 0 * 2 ^ s := ⟨_, rfl⟩
   have hor : C ||| M = C + M := by
    have e := Nat.shiftLeft_add_eq_or_of_lt hC (xs.getD i 0)
    rw [Nat.shiftLeft_eq, ← hMe] at e
    rw [Nat.or_comm, ← e, Nat.add_comm]
   have hmul : ((xs.getD i 0 : Nat) : Int) * (2 : Int) ^ s = (M : Int) := by rw [hMe]; simp
   have hbo : bits .or .u64 (C : Int) (M : Int) = ((C + M : Nat) : Int) := by rw [u64_or C M (by omega) (by omega), hor]
   rw [← hMe] at q1 q2 hM
   have hCM : C + M < 9223372036854775808 + 2147483648 := by omega
   have Q := J (And.intro q1 q2)
   have HM := J hM
   clear hvx hor hMe q1 q2 hP hP0
   unfold B32 at hx1
   generalize hS : C + M = S at *
   have HN : Hid (UpRel w.heap.size s xs w (.int .i64 ((i : Int) + 1)) (.int .u64 ((S : Int) / 4294967296)) (wr.setCell ⟨w.heap.size, i, none⟩ (.int .u32 ((S : Int) % 4294967296)))) := J (by
    have e1 : ((S % B32 : Nat) : Int) = (S : Int) % 4294967296 := by simp [B32]
    have e2 : ((S / B32 : Nat) : Int) = (S : Int) / 4294967296 := by simp [B32]
    obtain ⟨o1, _⟩ := HO.out.set hyl i (S % B32)
    rw [e1] at o1
    refine ⟨i + 1, S / B32, ys.set i (S % B32), by go_num, hlt, by rw [e2], by rw [List.length_set]; exact hyl, Q.out.1, J (okN_set (by omega) ho.out (Nat.mod_lt _ (by decide))), J ?_, J o1, J (HBl.out.setCell (Nat.le_refl _) _)⟩
    rw [val_set ys i _ (by omega)]
    exact Q.out.2)
   generalize xs.getD i 0 = x at *
   generalize ys.getD i 0 = y at *
   clear hS
   go_wp2
   go_roundw
   case rel => exact HN.out
   case measure => simp [intOf]; omega
  ·obtain rfl : i = xs.length := by omega
   obtain ⟨gc, gf⟩ := HO.out.cell hyl xs.length (by omega)
   have hP : 2 ^ s ≤ 2 ^ 31 := Nat.pow_le_pow_right (by decide) hs
   have hC32 : C < 4294967296 := by omega
   have HR : Hid (UpRet s xs w (.returned (.slice (some ⟨w.heap.size, 0, none⟩) (xs.length + 1) (xs.length + 1))) (wr.setCell ⟨w.heap.size, xs.length, none⟩ (.int .u32 (C : Int)))) := J (by
    obtain ⟨o1, _⟩ := HO.out.set hyl xs.length C
    refine ⟨w.heap.size, ys.set xs.length C, rfl, by rw [List.length_set]; exact hyl, ?_, ?_, o1, HBl.out.setCell (Nat.le_refl _) _⟩
    ·have := okN_set (ys := ys) (i := xs.length) (x := C) (by omega) ho.out hC32
     rw [List.take_of_length_le (by rw [List.length_set]; omega)] at this
     exact this
    ·have := val_set ys xs.length C (by omega)
     rw [List.take_of_length_le (by rw [List.length_set]; omega), hv.out, List.take_of_length_le (Nat.le_refl _)] at this
     exact this)
   generalize ys.getD xs.length 0 = y at *
   clear hP
   go_wp2
   go_ret
   exact HR.out
end Nat32
end Go.Proofs.YtgipnbeipfhekaaGreatDoor

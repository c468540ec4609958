/- The reference's small fractions: products. -/
import Derived.Test.YtcimmgpmkfbpdaaGreatDoorMgStr10
import Derived.Test.YtcimmgpmkfbpdaaGreatDoorMgStr00
import Derived.StillTail
namespace Go.Proofs.YtcimmgpmkfbpdaaGreatDoor.Fine
open Go.RowKit Go.Proofs.YtcimmgpmkfbpdaaGreatDoor Go.Proofs.YtcimmgpmkfbpdaaGreatDoor.Base Go.Proofs.YtcimmgpmkfbpdaaGreatDoor.Mem Go.Proofs.YtcimmgpmkfbpdaaGreatDoor.RatM Go.Proofs.YtcimmgpmkfbpdaaGreatDoor.Two Go.Proofs.YtcimmgpmkfbpdaaGreatDoor.Blk
set_option linter.unusedVariables false
def FRet (q : Rat) (w : World) (e : Ending) (w' : World) : Prop := e = .returned (.tuple #[.agg #[.int .i64 (numQ q), .int .i64 (denQ q)], .bool (smallQ q)]) ∧ Below w.heap.size w w'
theorem mul_parts {n1 d1 n2 d2 : Int} (h1 : VF n1 d1) (h2 : VF n2 d2) :
  ∃ N1 N2 : Int, ∃ D1 D2 : Nat, lowV n1 d2.toNat = .agg #[.int .i64 N1, .int .i64 (D2 : Int)] ∧ lowV n2 d1.toNat = .agg #[.int .i64 N2, .int .i64 (D1 : Int)] ∧
   -1000000000000000000 ≤ N1 ∧ N1 ≤ 1000000000000000000 ∧ -1000000000000000000 ≤ N2 ∧ N2 ≤ 1000000000000000000 ∧ D1 ≤ 1000000000000000000 ∧ D2 ≤ 1000000000000000000 ∧
   (qf n1 d1 * qf n2 d2).num.natAbs = N1.natAbs * N2.natAbs ∧ (qf n1 d1 * qf n2 d2).den = D2 * D1 ∧
   (decide (N1 < 0) = decide (N2 < 0) → (qf n1 d1 * qf n2 d2).num = ((N1.natAbs * N2.natAbs : Nat) : Int)) ∧ (decide (N1 < 0) ≠ decide (N2 < 0) → (qf n1 d1 * qf n2 d2).num = -((N1.natAbs * N2.natAbs : Nat) : Int)) := by
 obtain ⟨a1, a2, a3, a4, a5⟩ := h1
 obtain ⟨b1, b2, b3, b4, b5⟩ := h2
 have hd1 : 0 < d1.toNat := by omega
 have hd2 : 0 < d2.toNat := by omega
 have p1 : 0 < Nat.gcd n1.natAbs d2.toNat := Nat.gcd_pos_of_pos_right _ hd2
 have p2 : 0 < Nat.gcd n2.natAbs d1.toNat := Nat.gcd_pos_of_pos_right _ hd1
 obtain ⟨_, q1, s1⟩ := exact_div (Nat.gcd_dvd_left n1.natAbs d2.toNat) p1
 obtain ⟨_, q2, s2⟩ := exact_div (Nat.gcd_dvd_left n2.natAbs d1.toNat) p2
 have hc := prod_cop hd1 hd2 a5 b5
 have hv := prod_val (decide (n1 < 0) != decide (n2 < 0)) (n1 := n1.natAbs) (n2 := n2.natAbs) hd1 hd2
 have hm := qv_mul (decide (n1 < 0)) (decide (n2 < 0)) (n := n1.natAbs) (n' := n2.natAbs) (d := d1.toNat) (d' := d2.toNat) (by omega) (by omega)
 have hne : d2.toNat / Nat.gcd n1.natAbs d2.toNat * (d1.toNat / Nat.gcd n2.natAbs d1.toNat) ≠ 0 := by
  refine Nat.mul_ne_zero ?_ ?_
  ·exact Nat.ne_of_gt (Nat.div_pos (Nat.gcd_le_right _ hd2) p1)
  ·exact Nat.ne_of_gt (Nat.div_pos (Nat.gcd_le_right _ hd1) p2)
 have e : qf n1 d1 * qf n2 d2 = qv (decide (n1 < 0) != decide (n2 < 0)) (n1.natAbs / Nat.gcd n1.natAbs d2.toNat * (n2.natAbs / Nat.gcd n2.natAbs d1.toNat)) (d2.toNat / Nat.gcd n1.natAbs d2.toNat * (d1.toNat / Nat.gcd n2.natAbs d1.toNat)) := by
  rw [hv, hm]; rfl
 obtain ⟨l1, l2⟩ := low_of (s := decide (n1 < 0) != decide (n2 < 0)) hne hc
 have l0 := (own_num (s := decide (n1 < 0) != decide (n2 < 0)) hne hc).1
 refine ⟨_, _, d1.toNat / Nat.gcd n2.natAbs d1.toNat, d2.toNat / Nat.gcd n1.natAbs d2.toNat, rfl, rfl, ?_, ?_, ?_, ?_, ?_, ?_, ?_, ?_, ?_, ?_⟩
 ·have := Nat.div_le_self n1.natAbs (Nat.gcd n1.natAbs d2.toNat); omega
 ·have := Nat.div_le_self n1.natAbs (Nat.gcd n1.natAbs d2.toNat); omega
 ·have := Nat.div_le_self n2.natAbs (Nat.gcd n2.natAbs d1.toNat); omega
 ·have := Nat.div_le_self n2.natAbs (Nat.gcd n2.natAbs d1.toNat); omega
 ·have := Nat.div_le_self d1.toNat (Nat.gcd n2.natAbs d1.toNat); omega
 ·have := Nat.div_le_self d2.toNat (Nat.gcd n1.natAbs d2.toNat); omega
 ·rw [e, l0, q1, q2]
 ·rw [e, l2]
 ·intro hs
  rw [e, l1, q1, q2]
  simp only [s1, s2] at hs
  rw [hs, bne_self_eq_false]; rfl
 ·intro hs
  rw [e, l1, q1, q2]
  simp only [s1, s2] at hs
  have : (decide (n1 < 0) != decide (n2 < 0)) = true := by simpa using hs
  rw [this]; rfl
theorem smallE (t : Nat) : ∃ (i : Int) (b : Bool), b = decide (t ≤ 1000000000000000000) ∧ (b = true → i = (t : Int)) ∧ Hid (∀ w, Calls Tryz.prog 142 #[two t] w fun e w' => e = .returned (.tuple #[.int .i64 i, .bool b]) ∧ Below w.heap.size w w') :=
 ⟨_, _, rfl, fun h => by rw [if_pos (of_decide_eq_true h)], Lib.hid (fun w => small_any t w)⟩
end Go.Proofs.YtcimmgpmkfbpdaaGreatDoor.Fine
namespace Go.Proofs.YtcimmgpmkfbpdaaGreatDoor.Rel
open Go.RowKit Go.Proofs.YtcimmgpmkfbpdaaGreatDoor Go.Proofs.YtcimmgpmkfbpdaaGreatDoor.Base
set_option linter.unusedVariables false
section
variable {P : Program} {ops : Array Oper} {md : Region.Mode}
def upon (P : Program) (R : Value → World → Prop) : Result Next → Prop
 | .ok (.value u) w' => R u w'
 | .ok .skip w' => R undef w'
 | .ok (.enter f args) w' => Calls P f args w' fun e w'' => ∃ v, e = .returned v ∧ R v w''
 | _ => False
def stepAt (P : Program) (o : Oper) (a : Act) (w : World) (R : Value → World → Prop) : Prop := upon P R ((execOp a.eval o).run P w)
theorem wp_of_step {o : Oper} {a : Act} {w : World} {R : Value → World → Prop} {K : Act → World → Prop} {Q : Exit → Act → World → Prop} (h : stepAt P o a w R) (hK : ∀ v w', R v w' → K (a.put o.dst v) w') : o.wp P a w K Q := by
 unfold stepAt at h
 unfold Oper.wp
 generalize (execOp a.eval o).run P w = r at *
 cases r with
 | ok n w' =>
  cases n <;> simp only [upon] at h <;> simp only [Oper.upon]
  case value u => exact hK _ _ h
  case skip => exact hK _ _ h
  case enter f args => exact h.mono fun e w'' ⟨v, he, hv⟩ => by subst he; exact hK _ _ hv
 | halt x w' => simp only [upon] at h
abbrev Fam := Nat → Value → World → Prop
def putL : List Oper → Nat → (Nat → Value) → Act → Act
 | [], _, _, a => a
 | o :: r, k, vs, a => putL r (k + 1) vs (a.put o.dst (vs k))
def deps (md : Region.Mode) (G : Fam) (vs : Nat → Value) (w : World) (o : Oper) : Prop := ∀ e ∈ o.after, Region.binds md e = true → G e.on (vs e.on) w
def setG (G : Fam) (k : Nat) (S : Value → World → Prop) : Fam := fun j => if j = k then S else G j
def Mono (S : Value → World → Prop) : Prop := ∀ v w w', S v w → Below w.heap.size w w' → S v w'
def allG (G : Fam) (vs : Nat → Value) (w : World) : Nat → Prop
 | 0 => True
 | k + 1 => allG G vs w k ∧ G k (vs k) w
def wpRel (P : Program) (md : Region.Mode) (F : (Nat → Value) → Act) (W : World) (K : Act → World → Prop) : List Oper → Nat → Fam → Prop
 | [], k, G => ∀ vs w, Below W.heap.size W w → allG G vs w k → K (F vs) w
 | o :: r, k, G => ∃ S, Mono S ∧ (∀ vs w, Below W.heap.size W w → deps md G vs w o → stepAt P o (F vs) w (fun v w' => S v w' ∧ Below w.heap.size w w')) ∧ wpRel P md F W K r (k + 1) (setG G k S)
def edgesB (md : Region.Mode) (ops : Array Oper) (n : Nat) : Bool :=
 (List.range n).all fun i => ((ops[i]?).map fun o => o.after.all (fun e => !Region.binds md e || decide (e.on < i)) && o.guard.isNone).getD false
def dstsB (ops : Array Oper) (n : Nat) : Bool :=
 (List.range n).all fun i => (List.range i).all fun j => match (ops[i]?).bind (·.dst), (ops[j]?).bind (·.dst) with
  | some d, some d' => d != d'
  | _, _ => true
def headL (n m : Nat) : Array Bool := (Array.range m).map fun i => decide (i < n)
def relB (md : Region.Mode) (ops : Array Oper) (n : Nat) : Bool :=
 decide (n ≤ ops.size) && edgesB md ops n && dstsB ops n && (decide (n = ops.size) || (decide (n < ops.size) && Region.sinkB md ops n && Region.chainB md ops n)) && Region.seqB md ops (ops.size - n) n (headL n ops.size)
theorem edges_spec {n i : Nat} {o : Oper} (h : edgesB md ops n = true) (hi : i < n) (ho : ops[i]? = some o) : (∀ e ∈ o.after, Region.binds md e = true → e.on < i) ∧ o.guard = none := by
 have h1 := List.all_eq_true.1 h i (List.mem_range.2 hi)
 rw [ho] at h1
 simp only [Option.map_some, Option.getD_some, Bool.and_eq_true, Array.all_eq_true_iff_forall_mem, Bool.or_eq_true, Bool.not_eq_true', decide_eq_true_eq, Option.isNone_iff_eq_none] at h1
 exact ⟨fun e he hb => (h1.1 e he).resolve_left (by simp [hb]), h1.2⟩
theorem dsts_spec {n i j : Nat} {d d' : Tmp} (h : dstsB ops n = true) (hi : i < n) (hj : j < n) (hij : i ≠ j) (hd : (ops[i]?).bind (·.dst) = some d) (hd' : (ops[j]?).bind (·.dst) = some d') : d ≠ d' := by
 have key : ∀ {i j : Nat} {d d' : Tmp}, i < n → j < i → (ops[i]?).bind (·.dst) = some d → (ops[j]?).bind (·.dst) = some d' → d ≠ d' := by
  intro i j d d' hi hj hd hd'
  have h1 := List.all_eq_true.1 h i (List.mem_range.2 hi)
  have h2 := List.all_eq_true.1 h1 j (List.mem_range.2 hj)
  rw [hd, hd'] at h2
  simpa using h2
 rcases Nat.lt_or_gt_of_ne hij with h1 | h1
 ·exact (key hj h1 hd' hd).symm
 ·exact key hi h1 hd hd'
theorem put_self (a : Act) (d : Tmp) : a.put (some d) (a.tmps.getD d undef) = a := by
 unfold Act.put
 have : a.tmps.setIfInBounds d (a.tmps.getD d undef) = a.tmps := by
  apply Array.ext
  ·simp
  ·intro i h1 h2
   rw [Array.getElem_setIfInBounds]
   split
   ·rename_i e; subst e; simp [h2]
   ·rfl
 show ({ a with tmps := a.tmps.setIfInBounds d (a.tmps.getD d undef) } : Act) = a
 rw [this]
theorem put_put (a : Act) (d : Option Tmp) (u v : Value) : (a.put d u).put d v = a.put d v := by
 cases d with
 | none => rfl
 | some d => simp [Act.put]
theorem put_swap (a : Act) {d d' : Option Tmp} (u v : Value) (h : d = none ∨ d' = none ∨ d ≠ d') : (a.put d u).put d' v = (a.put d' v).put d u := by
 cases d with
 | none => rfl
 | some d =>
  cases d' with
  | none => rfl
  | some d' =>
   have hne : d ≠ d' := by
    rcases h with h | h | h
    ·cases h
    ·cases h
    ·exact fun e => h (by rw [e])
   simp only [Act.put]
   rw [Array.setIfInBounds_comm _ _ hne]
theorem putL_out : ∀ (l : List Oper) (k : Nat) (vs : Nat → Value) (a : Act) (d : Option Tmp) (v : Value), (∀ o ∈ l, d = none ∨ o.dst = none ∨ d ≠ o.dst) → (putL l k vs a).put d v = putL l k vs (a.put d v)
 | [], _, _, _, _, _, _ => rfl
 | o :: r, k, vs, a, d, v, h => by
  rw [putL, putL, putL_out r (k + 1) vs _ d v fun o' ho' => h o' (by simp [ho'])]
  congr 1
  refine (put_swap a _ _ ?_)
  rcases h o (by simp) with h | h | h
  ·exact .inr (.inl h)
  ·exact .inl h
  ·exact .inr (.inr h.symm)
theorem putL_congr : ∀ (l : List Oper) (k : Nat) (vs vs' : Nat → Value) (a : Act), (∀ j, k ≤ j → vs j = vs' j) → putL l k vs a = putL l k vs' a
 | [], _, _, _, _, _ => rfl
 | o :: r, k, vs, vs', a, h => by
  rw [putL, putL, h k (Nat.le_refl _)]
  exact putL_congr r (k + 1) vs vs' _ fun j hj => h j (by omega)
theorem putL_put : ∀ (l : List Oper) (k i : Nat) (vs : Nat → Value) (a : Act) (o : Oper) (v : Value), l[i]? = some o → (∀ j oj, l[j]? = some oj → j ≠ i → o.dst = none ∨ oj.dst = none ∨ o.dst ≠ oj.dst) →
  (putL l k vs a).put o.dst v = putL l k (fun j => if j = k + i then v else vs j) a
 | [], _, _, _, _, _, _, h, _ => by cases h
 | o' :: r, k, 0, vs, a, o, v, h, hd => by
  obtain rfl : o' = o := by simpa using h
  rw [putL, putL, putL_out r (k + 1) vs _ o'.dst v fun oj hoj => by
   obtain ⟨j, hj⟩ := List.getElem?_of_mem hoj
   exact hd (j + 1) oj (by simpa using hj) (by omega), put_put]
  simp only [Nat.add_zero, if_true]
  exact putL_congr r (k + 1) _ _ _ fun j hj => by rw [if_neg (by omega)]
 | o' :: r, k, i + 1, vs, a, o, v, h, hd => by
  rw [putL, putL, putL_put r (k + 1) i vs _ o v (by simpa using h) fun j oj hj hne => hd (j + 1) oj (by simpa using hj) (by omega)]
  rw [if_neg (by omega)]
  congr 1
  funext j
  rw [show k + 1 + i = k + (i + 1) by omega]
theorem putL_same : ∀ (l : List Oper) (k : Nat) (vs : Nat → Value) (a : Act), (∀ i o d, l[i]? = some o → o.dst = some d → vs (k + i) = a.tmps.getD d undef) → putL l k vs a = a
 | [], _, _, _, _ => rfl
 | o :: r, k, vs, a, h => by
  have e : a.put o.dst (vs k) = a := by
   cases hd : o.dst with
   | none => rfl
   | some d =>
    have := h 0 o d (by simp) hd
    rw [Nat.add_zero] at this
    rw [this]; exact put_self a d
  rw [putL, e]
  exact putL_same r (k + 1) vs a fun i o' d hi hd => by
   have := h (i + 1) o' d (by simpa using hi) hd
   rw [show k + 1 + i = k + (i + 1) by omega]; exact this
theorem wpRel_spec {F : (Nat → Value) → Act} {W : World} {K : Act → World → Prop} : ∀ (l : List Oper) (k : Nat) (G : Fam), (∀ i o, l[i]? = some o → ∀ e ∈ o.after, Region.binds md e = true → e.on < k + i) → wpRel P md F W K l k G →
  ∃ G' : Fam, (∀ j, j < k → G' j = G j) ∧ (∀ i o, l[i]? = some o → Mono (G' (k + i)) ∧ ∀ vs w, Below W.heap.size W w → deps md G' vs w o → stepAt P o (F vs) w (fun v w' => G' (k + i) v w' ∧ Below w.heap.size w w')) ∧
   (∀ vs w, Below W.heap.size W w → allG G' vs w (k + l.length) → K (F vs) w)
 | [], k, G, _, h => ⟨G, fun _ _ => rfl, fun i o hi => (by cases hi), h⟩
 | o :: r, k, G, hed, h => by
  obtain ⟨S, hM, hst, hr⟩ := h
  obtain ⟨G', h1, h2, h3⟩ := wpRel_spec r (k + 1) (setG G k S) (fun i o' hi e he hb => by have := hed (i + 1) o' (by simpa using hi) e he hb; omega) hr
  have hk : G' k = S := by rw [h1 k (by omega)]; unfold setG; rw [if_pos rfl]
  refine ⟨G', fun j hj => ?_, fun i o' hi => ?_, fun vs w hw ha => h3 vs w hw (by rw [show k + 1 + r.length = k + (o :: r).length by simp; omega]; exact ha)⟩
  ·rw [h1 j (by omega)]; unfold setG; rw [if_neg (by omega)]
  ·cases i with
   | zero =>
    obtain rfl : o = o' := by simpa using hi
    rw [Nat.add_zero, hk]
    refine ⟨hM, fun vs w hw hdp => hst vs w hw fun e he hb => ?_⟩
    have := hdp e he hb
    have hlt := hed 0 o (by simp) e he hb
    rw [h1 e.on (by omega)] at this
    unfold setG at this
    rwa [if_neg (by omega)] at this
   | succ i =>
    have := h2 i o' (by simpa using hi)
    rw [show k + 1 + i = k + (i + 1) by omega] at this
    exact this
theorem allG_of {G : Fam} {vs : Nat → Value} {w : World} : ∀ (k : Nat), (∀ i, i < k → G i (vs i) w) → allG G vs w k
 | 0, _ => trivial
 | k + 1, h => ⟨allG_of k fun i hi => h i (by omega), h k (by omega)⟩
theorem count_zero {n : Nat} {listed : Array Bool} (h : (List.range n).countP (fun i => !listed.getD i false) = 0) : ∀ i, i < n → listed.getD i false = true := fun i hi => by
 have := List.countP_eq_zero.1 h i (List.mem_range.2 hi)
 simpa using this
theorem count_pos {n f : Nat} {listed : Array Bool} (h : (List.range n).countP (fun i => !listed.getD i false) = f + 1) : ∃ i, i < n ∧ listed.getD i false = false ∧ ∀ j, j < i → listed.getD j false = true := by
 have hex : ∃ i, i < n ∧ listed.getD i false = false := by
  refine Classical.byContradiction fun hc => ?_
  have : (List.range n).countP (fun i => !listed.getD i false) = 0 := List.countP_eq_zero.2 fun i hi => by
   have hi := List.mem_range.1 hi
   cases hb : listed.getD i false
   ·exact absurd ⟨i, hi, hb⟩ hc
   ·simp
  omega
 obtain ⟨i, hi, hb⟩ := hex
 induction i using Nat.strongRecOn with
 | _ i ih =>
  by_cases hall : ∀ j, j < i → listed.getD j false = true
  ·exact ⟨i, hi, hb, hall⟩
  ·obtain ⟨j, hj⟩ := Classical.not_forall.1 hall
   obtain ⟨hj1, hj2⟩ := Classical.not_imp.1 hj
   exact ih j hj1 (by omega) (by simpa using hj2)
theorem count_set {n f i : Nat} {listed : Array Bool} (hi : i < n) (hs : n ≤ listed.size) (hb : listed.getD i false = false) (h : (List.range n).countP (fun i => !listed.getD i false) = f + 1) : (List.range n).countP (fun j => !(listed.setIfInBounds i true).getD j false) = f := by
 have key : ∀ m, m ≤ n → (List.range m).countP (fun j => !listed.getD j false) = (List.range m).countP (fun j => !(listed.setIfInBounds i true).getD j false) + (if i < m then 1 else 0) := by
  intro m
  induction m with
  | zero => intro _; simp
  | succ m ih =>
   intro hm
   have := ih (by omega)
   rw [List.range_succ, List.countP_append, List.countP_append, this]
   by_cases him : i = m
   ·subst him
    have h1 : (listed.setIfInBounds i true).getD i false = true := by simp [show i < listed.size by omega]
    rw [List.countP_singleton, List.countP_singleton, h1, hb]
    simp
   ·have e : (if i < m + 1 then 1 else 0 : Nat) = if i < m then 1 else 0 := by
     by_cases hlt : i < m
     ·rw [if_pos hlt, if_pos (by omega)]
     ·rw [if_neg hlt, if_neg (by omega)]
    rw [List.countP_singleton, List.countP_singleton, getD_set_ne false him, e]
    omega
 have := key n (Nat.le_refl _)
 rw [if_pos hi] at this
 omega
theorem headL_get (n m i : Nat) (h : n ≤ m) : (headL n m).getD i false = decide (i < n) := by
 unfold headL
 by_cases hi : i < m
 ·simp [hi]
 ·simp [hi]; omega
theorem listed_ext {n : Nat} {listed : Array Bool} (inv : HeadInv md ops n listed) (hn : n ≤ ops.size) (h : ∀ i, i < n → listed.getD i false = true) : listed = headL n ops.size := by
 apply Array.ext
 ·simp [headL, inv.size]
 ·intro i h1 h2
  have hi : i < ops.size := by rw [inv.size] at h1; exact h1
  have e1 : listed.getD i false = listed[i] := by simp [h1]
  have e2 := headL_get n ops.size i hn
  have e3 : (headL n ops.size).getD i false = (headL n ops.size)[i] := by simp [h2]
  rw [← e1, ← e3, e2]
  by_cases hlt : i < n
  ·rw [h i hlt]; simp [hlt]
  ·have := inv.tail i (by omega) hi
   rw [getD_both this]; simp [hlt]
structure RInv (md : Region.Mode) (ops : Array Oper) (n : Nat) (G : Fam) (hd : List Oper) (a0 : Act) (W : World) (listed : Array Bool) (a : Act) (w : World) : Prop where
 inv : HeadInv md ops n listed
 cls : Below W.heap.size W w
 vals : ∃ vs, a = putL hd 0 vs a0 ∧ ∀ i, i < n → listed.getD i false = true → G i (vs i) w
theorem wpAny_rel {n : Nat} {G : Fam} {a0 : Act} {W : World} {Q : Exit → Act → World → Prop} {l : List Oper} (hB : relB md l.toArray n = true)
  (h2 : ∀ i o, (l.take n)[i]? = some o → Mono (G i) ∧ ∀ vs w, Below W.heap.size W w → deps md G vs w o → stepAt P o (putL (l.take n) 0 vs a0) w (fun v w' => G i v w' ∧ Below w.heap.size w w'))
  (h3 : ∀ vs w, Below W.heap.size W w → allG G vs w n → wpList P l.toArray Q (l.drop n) (putL (l.take n) 0 vs a0) w) :
  ∀ (f : Nat) (listed : Array Bool) (a : Act) (w : World), RInv md l.toArray n G (l.take n) a0 W listed a w → (List.range n).countP (fun i => !listed.getD i false) = f → wpAny P md l.toArray Q (f + (l.toArray.size - n)) listed a w := by
 simp only [relB, Bool.and_eq_true, Bool.or_eq_true, decide_eq_true_eq] at hB
 obtain ⟨⟨⟨⟨hn, hed⟩, hds⟩, htl⟩, hsq⟩ := hB
 have hnl : n ≤ l.length := by simpa using hn
 have hdl : (l.drop n).length = l.toArray.size - n := by simp
 intro f
 induction f with
 | zero =>
  intro listed a w hI hc
  have hall := count_zero hc
  have e := listed_ext hI.inv hn hall
  obtain ⟨vs, rfl, hv⟩ := hI.vals
  rw [Nat.zero_add, ← hdl]
  refine wpAny_of_seq (l.drop n) n listed _ w (fun j => by simp [List.getElem?_drop]) ?_ (h3 vs w hI.cls (allG_of n fun i hi => hv i hi (hall i hi)))
  rw [hdl, e]; exact hsq
 | succ f ih =>
  intro listed a w hI hc
  obtain ⟨i0, hi0, hb0, hbefore⟩ := count_pos hc
  have hsz := hI.inv.size
  have hrdy : i0 ∈ Region.ready md l.toArray listed := by
   have hlt : i0 < l.toArray.size := by omega
   refine mem_ready.2 ⟨getD_in (by omega) hb0, l.toArray[i0], by simp, fun e he hb => ?_⟩
   exact hbefore _ ((edges_spec hed hi0 (by simp)).1 e he hb)
  rw [show f + 1 + (l.toArray.size - n) = (f + (l.toArray.size - n)) + 1 by omega]
  refine ⟨fun h => (by rw [h] at hrdy; cases hrdy), fun i hi => ?_⟩
  have hin : i < n := by
   rcases Nat.lt_or_ge i n with h | h
   ·exact h
   ·rcases htl with htl | htl
    ·obtain ⟨_, o, ho, _⟩ := mem_ready.1 hi
     have := (Array.getElem?_eq_some_iff.1 ho).1
     omega
    ·exact absurd hi (tail_waits htl.1.2 htl.2 htl.1.1 hI.inv _ i0 rfl hi0 (getD_in (by omega) hb0) i h)
  obtain ⟨hun, o, ho, hall⟩ := mem_ready.1 hi
  obtain ⟨hlow, hgd⟩ := edges_spec hed hin ho
  have hli : (l.take n)[i]? = some o := by
   rw [List.getElem?_take, if_pos hin]; simpa using ho
  obtain ⟨vs, rfl, hv⟩ := hI.vals
  obtain ⟨hM, hst⟩ := h2 i o hli
  have hstep := hst vs w hI.cls fun e he hb => hv e.on (by have := hlow e he hb; omega) (hall e he hb)
  have hw : Region.wanted o (yielded l.toArray (putL (l.take n) 0 vs a0).tmps) = true := by simp [Region.wanted, hgd]
  unfold wpOp
  rw [ho]
  simp only [hw, if_true]
  refine .inl (wp_of_step hstep fun v w' ⟨hv', hbw⟩ => ?_)
  refine ih _ _ _ ⟨hI.inv.set hi hin, hI.cls.trans (hbw.mono hI.cls.size), fun j => if j = 0 + i then v else vs j, ?_, fun j hj hl => ?_⟩ (count_set hin (by omega) (getD_both hun) hc)
  ·refine putL_put (l.take n) 0 i vs a0 o v hli fun j oj hj hne => ?_
   cases hd : o.dst with
   | none => exact .inl rfl
   | some d =>
    cases hd' : oj.dst with
    | none => exact .inr (.inl rfl)
    | some d' =>
     have hjn : j < n := by
      have := (List.getElem?_eq_some_iff.1 hj).1
      simp at this; omega
     have hj' : l[j]? = some oj := by rw [List.getElem?_take, if_pos hjn] at hj; exact hj
     have ho' : l[i]? = some o := by simpa using ho
     refine .inr (.inr fun e => dsts_spec hds hin hjn (Ne.symm hne) (d := d) (d' := d') (by simp [ho', hd]) (by simp [hj', hd']) (Option.some.inj e))
  ·by_cases hji : j = i
   ·subst hji
    show G j (if j = 0 + j then v else vs j) w'
    rw [if_pos (by omega)]; exact hv'
   ·show G j (if j = 0 + i then v else vs j) w'
    rw [if_neg (by omega)]
    rw [getD_set_ne false (Ne.symm hji)] at hl
    have hjn : j < (l.take n).length := by simp; omega
    exact (h2 j _ (List.getElem?_eq_getElem hjn)).1 _ _ _ (hv j hj hl) hbw
theorem wp_region_rel {id : Nat} {Q : Exit → Act → World → Prop} {a : Act} {W : World} {l : List Oper} (n : Nat) (hm : P.follows .mixedOrders = true) (hB : relB .any l.toArray n = true)
  (h : ∀ F : (Nat → Value) → Act, (∀ vs, F vs = putL (l.take n) 0 vs a) → wpRel P .any F W (wpList P l.toArray Q (l.drop n)) (l.take n) 0 (fun _ _ _ => True)) : (Code.region id l.toArray true).wp P Q a W := by
 have hB' := hB
 simp only [relB, Bool.and_eq_true, Bool.or_eq_true, decide_eq_true_eq] at hB'
 obtain ⟨⟨⟨⟨hn, hed⟩, hds⟩, htl⟩, hsq⟩ := hB'
 have hnl : n ≤ l.length := by simpa using hn
 have hlen : (l.take n).length = n := by simp; omega
 obtain ⟨G, _, h2, h3⟩ := wpRel_spec (l.take n) 0 _ (fun i o hi e he hb => by
  have hin : i < n := by
   have := (List.getElem?_eq_some_iff.1 hi).1
   rwa [hlen] at this
  have ho : l.toArray[i]? = some o := by rw [List.getElem?_take, if_pos hin] at hi; simpa using hi
  rw [Nat.zero_add]
  exact (edges_spec hed hin ho).1 e he hb) (h (fun vs => putL (l.take n) 0 vs a) fun _ => rfl)
 simp only [Nat.zero_add, hlen] at h2 h3
 refine wp_region_any hm ?_
 have inv0 : HeadInv .any l.toArray n (Array.replicate l.toArray.size false) :=
  ⟨by simp, fun j oj _ hl => (by rw [getD_replicate_false] at hl; cases hl), fun t _ ht => getD_in (by simpa using ht) (getD_replicate_false _ _)⟩
 have hc : (List.range n).countP (fun i => !(Array.replicate l.toArray.size false).getD i false) = n := by
  rw [List.countP_eq_length.2 fun i _ => by rw [getD_replicate_false]; rfl]
  simp
 have := wpAny_rel hB h2 h3 n _ a W.drew ⟨inv0, (Below.refl _ _).drew, fun i => (((l.take n)[i]?.bind (·.dst)).map fun d => a.tmps.getD d undef).getD undef, ?_, fun i _ hl => (by rw [getD_replicate_false] at hl; cases hl)⟩ hc
 ·rw [show n + (l.toArray.size - n) = l.toArray.size by omega] at this
  exact this
 ·refine (putL_same (l.take n) 0 _ a fun i o d hi hd => ?_).symm
  simp only [Nat.zero_add, hi, Option.bind_some, hd, Option.map_some, Option.getD_some]
variable {r : List Oper} {F : (Nat → Value) → Act} {W : World} {K : Act → World → Prop} {o : Oper} {k : Nat} {G : Fam}
theorem rel_pure (h : ∃ c : Value, (∀ vs w, Below W.heap.size W w → deps md G vs w o → ∀ R : Value → World → Prop, R c w → stepAt P o (F vs) w R) ∧ wpRel P md F W K r (k + 1) (setG G k fun v _ => v = c)) : wpRel P md F W K (o :: r) k G :=
 let ⟨c, h1, h2⟩ := h
 ⟨fun v _ => v = c, fun _ _ _ h _ => h, fun vs w hw hd => h1 vs w hw hd _ ⟨rfl, Below.refl _ _⟩, h2⟩
theorem rel_law {S : Value → World → Prop} (hM : Mono S) (h : ∀ vs w, Below W.heap.size W w → deps md G vs w o → stepAt P o (F vs) w fun v w' => S v w' ∧ Below w.heap.size w w') (hr : wpRel P md F W K r (k + 1) (setG G k S)) : wpRel P md F W K (o :: r) k G :=
 ⟨S, hM, h, hr⟩
theorem rel_same (h : ∃ c : Value, (∀ vs w, Below W.heap.size W w → deps md G vs w o → stepAt P o (F vs) w fun v w' => v = c ∧ Below w.heap.size w w') ∧ wpRel P md F W K r (k + 1) (setG G k fun v _ => v = c)) : wpRel P md F W K (o :: r) k G :=
 let ⟨c, h1, h2⟩ := h
 ⟨fun v _ => v = c, fun _ _ _ h _ => h, h1, h2⟩
theorem rel_end (h : ∀ vs w, Below W.heap.size W w → allG G vs w k → K (F vs) w) : wpRel P md F W K [] k G := h
def NewB (B : Nat) (cs : Array Value) (t : TypeId) (v : Value) (w : World) : Prop := ∃ g, v = .pointer (some ⟨g, 0, none⟩) ∧ B ≤ g ∧ w.heap[g]? = some (.cells cs t (0, 0))
theorem newB_mono (B : Nat) (cs : Array Value) (t : TypeId) : Mono (NewB B cs t) := fun v w w' ⟨g, e, hB, h⟩ hb => by
 have hlt : g < w.heap.size := by
  rcases Nat.lt_or_ge g w.heap.size with hlt | hge
  ·exact hlt
  ·rw [Array.getElem?_eq_none hge] at h; cases h
 exact ⟨g, e, hB, (hb.block g hlt).trans h⟩
theorem rel_alloc {cs : Array Value} {t : TypeId} (h : ∀ vs w, Below W.heap.size W w → deps md G vs w o → ∀ R : Value → World → Prop, R (.pointer (some ⟨w.heap.size, 0, none⟩)) (w.alloc (.cells cs t)) → stepAt P o (F vs) w R) (hr : wpRel P md F W K r (k + 1) (setG G k (NewB W.heap.size cs t))) : wpRel P md F W K (o :: r) k G :=
 ⟨_, newB_mono _ _ _, fun vs w hw hd => h vs w hw hd _ ⟨⟨w.heap.size, rfl, hw.size, by show (w.heap.push _)[w.heap.size]? = _; simp⟩, (Below.refl _ _).alloc (Nat.le_refl _) _⟩, hr⟩
theorem dep {vs : Nat → Value} {w : World} (hd : deps md G vs w o) (j : Nat) (h : (o.after.any fun e => Region.binds md e && e.on == j) = true) : G j (vs j) w := by
 obtain ⟨e, he, hb⟩ := Array.any_eq_true'.1 h
 simp only [Bool.and_eq_true, beq_iff_eq] at hb
 obtain ⟨h1, rfl⟩ := hb
 exact hd e he h1
theorem fin {vs : Nat → Value} {w : World} : ∀ {n : Nat}, allG G vs w n → ∀ (i : Nat), i < n → G i (vs i) w
 | 0, _, i, h => absurd h (Nat.not_lt_zero i)
 | n + 1, ha, i, h => by
  rcases Nat.lt_succ_iff_lt_or_eq.1 h with h | h
  ·exact fin ha.1 i h
  ·subst h; exact ha.2
theorem stepAt_eq (P : Program) (o : Oper) (a : Act) (w : World) (R : Value → World → Prop) : stepAt P o a w R = upon P R ((execOp a.eval o).run P w) := rfl
theorem upon_value (P : Program) (R : Value → World → Prop) (u : Value) (w : World) : upon P R (.ok (.value u) w) = R u w := rfl
theorem upon_enter (P : Program) (R : Value → World → Prop) (f : FuncId) (args : Array Value) (w : World) : upon P R (.ok (.enter f args) w) = Calls P f args w fun e w'' => ∃ v, e = .returned v ∧ R v w'' := rfl
attribute [irreducible] stepAt upon wpRel
end
end Go.Proofs.YtcimmgpmkfbpdaaGreatDoor.Rel

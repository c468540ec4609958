/- Plain mathematics: the only solution of linear equations as a choice; the steps of a stage of the elimination, cell by cell; how many digits a stage needs. -/
import Derived.Test.YtionognmgcabbaaGreatMgHit07
import Derived.Test.YtionognmgcabbaaGreatMgHit00
import Derived.StillTail
import Derived.Deep.Cut
import Derived.Laws.IdiomCopy
import Derived.Laws.BitsAllLaws
import Derived.IntWalk
import Derived.Shelf.Lay
import Derived.Shelf.Strconv.Itoa0
import Derived.Lib.ItoaNum
import Derived.Test.YtionognmgcabbaaGreatMgHit06
import Derived.Test.YtionognmgcabbaaGreatMgHit04
import Derived.Test.YtionognmgcabbaaGreatMgHit03
namespace Go.Proofs.YtionognmgcabbaaGreat.Ratio
open Go.RowKit Go.Proofs.YtionognmgcabbaaGreat Go.Proofs.YtionognmgcabbaaGreat.Base Go.Proofs.YtionognmgcabbaaGreat.Mem Go.Proofs.YtionognmgcabbaaGreat.NatM Go.Proofs.YtionognmgcabbaaGreat.Nat32 Go.Proofs.YtionognmgcabbaaGreat.RatM Go.Proofs.YtionognmgcabbaaGreat.GaussM Go.Proofs.YtionognmgcabbaaGreat.ChM
set_option linter.unusedVariables false
/-- is there just one solution -/
noncomputable def solB (M : Nat → Nat → Rat) (R n : Nat) : Bool := @decide (∃ x, Only M R n x) (Classical.propDecidable _)
/-- the only solution -/
noncomputable def solX (M : Nat → Nat → Rat) (R n : Nat) : Nat → Rat := @dite _ (∃ x, Only M R n x) (Classical.propDecidable _) (fun h => Classical.choose h) (fun _ _ => 0)
theorem sol_yes {M : Nat → Nat → Rat} {R n : Nat} {x : Nat → Rat} (h : Only M R n x) : solB M R n = true ∧ ∀ j, j < n → solX M R n j = x j := by
  have hx : ∃ x, Only M R n x := ⟨x, h⟩
  refine ⟨by unfold solB; exact @decide_eq_true _ (Classical.propDecidable _) hx, fun j hj => ?_⟩
  unfold solX
  rw [dif_pos hx]
  exact Only.same (Classical.choose_spec hx) h j hj
theorem sol_no {M : Nat → Nat → Rat} {R n : Nat} (h : ∀ x, ¬ Only M R n x) : solB M R n = false := by
  unfold solB
  exact @decide_eq_false _ (Classical.propDecidable _) (fun ⟨x, hx⟩ => h x hx)
theorem sol_congr {M M' : Nat → Nat → Rat} {R R' n : Nat} (h : ∀ y, Sol M R n y ↔ Sol M' R' n y) : solB M R n = solB M' R' n ∧ ∀ j, j < n → solX M R n j = solX M' R' n j := by
  by_cases hx : ∃ x, Only M R n x
  · obtain ⟨x, hx⟩ := hx
    obtain ⟨a1, a2⟩ := sol_yes hx
    obtain ⟨b1, b2⟩ := sol_yes ((Only.iff h).1 hx)
    exact ⟨a1.trans b1.symm, fun j hj => (a2 j hj).trans (b2 j hj).symm⟩
  · have hn : ∀ x, ¬ Only M R n x := fun x h => hx ⟨x, h⟩
    have hn' : ∀ x, ¬ Only M' R' n x := fun x h' => hx ⟨x, (Only.iff h).2 h'⟩
    refine ⟨(sol_no hn).trans (sol_no hn').symm, fun j hj => ?_⟩
    unfold solX
    rw [dif_neg hx, dif_neg (fun ⟨x, h'⟩ => hn' x h')]
/-- a row is scaled from column lo on, up to column c' -/
def scP (S : Nat → Nat → Rat) (k lo c' : Nat) (t : Rat) : Nat → Nat → Rat := fun r c => if r = k ∧ lo ≤ c ∧ c < c' then S r c * t else S r c
theorem sc_start (S : Nat → Nat → Rat) (k lo : Nat) (t : Rat) (r c : Nat) : scP S k lo lo t r c = S r c := by
  unfold scP
  rw [if_neg (by omega)]
theorem sc_at (S : Nat → Nat → Rat) (k lo c' : Nat) (t : Rat) (r : Nat) : scP S k lo c' t r c' = S r c' := by
  unfold scP
  rw [if_neg (by omega)]
theorem sc_step (S : Nat → Nat → Rat) {k lo c' : Nat} (t : Rat) (h : lo ≤ c') (r c : Nat) : (if r = k ∧ c = c' then S k c' * t else scP S k lo c' t r c) = scP S k lo (c' + 1) t r c := by
  unfold scP
  by_cases e : r = k ∧ c = c'
  · obtain ⟨rfl, rfl⟩ := e
    rw [if_pos ⟨rfl, rfl⟩, if_pos ⟨rfl, h, by omega⟩]
  · rw [if_neg e]
    by_cases g : r = k ∧ lo ≤ c ∧ c < c'
    · rw [if_pos g, if_pos ⟨g.1, g.2.1, by omega⟩]
    · rw [if_neg g, if_neg (by omega)]
theorem sc_end {S : Nat → Nat → Rat} {k lo n : Nat} {t : Rat} (h0 : ∀ c, c < lo → S k c = 0) {r c : Nat} (hc : c < n) : scP S k lo n t r c = scaleM S k t r c := by
  unfold scP scaleM
  by_cases e : r = k
  · subst e
    rw [if_pos rfl]
    by_cases g : lo ≤ c
    · rw [if_pos ⟨rfl, g, hc⟩]
    · rw [if_neg (by omega), h0 c (by omega)]; grind
  · rw [if_neg (by omega), if_neg e]
/-- the rows below r0 are cleared, and row r0 up to column c' -/
def clP (T : Nat → Nat → Rat) (k lo r0 c' : Nat) : Nat → Nat → Rat := fun r c => if r ≠ k ∧ lo ≤ c ∧ (r < r0 ∨ r = r0 ∧ c < c') then T r c - T r k * T k c else T r c
theorem cl_start (T : Nat → Nat → Rat) (k lo r c : Nat) : clP T k lo 0 lo r c = T r c := by
  unfold clP
  rw [if_neg (by omega)]
theorem cl_row (T : Nat → Nat → Rat) (k lo r0 c' c : Nat) : clP T k lo r0 c' k c = T k c := by
  unfold clP
  rw [if_neg (by omega)]
theorem cl_at (T : Nat → Nat → Rat) (k lo r0 c' : Nat) {c : Nat} (h : c' ≤ c) : clP T k lo r0 c' r0 c = T r0 c := by
  unfold clP
  rw [if_neg (by omega)]
theorem cl_step (T : Nat → Nat → Rat) {k lo r0 c' : Nat} (hk : r0 ≠ k) (h : lo ≤ c') (r c : Nat) : (if r = r0 ∧ c = c' then T r0 c' - T r0 k * T k c' else clP T k lo r0 c' r c) = clP T k lo r0 (c' + 1) r c := by
  unfold clP
  by_cases e : r = r0 ∧ c = c'
  · obtain ⟨rfl, rfl⟩ := e
    rw [if_pos ⟨rfl, rfl⟩, if_pos ⟨hk, h, by omega⟩]
  · rw [if_neg e]
    by_cases g : r ≠ k ∧ lo ≤ c ∧ (r < r0 ∨ r = r0 ∧ c < c')
    · rw [if_pos g, if_pos (by omega)]
    · rw [if_neg g, if_neg (by omega)]
theorem cl_next (T : Nat → Nat → Rat) {k lo r0 n : Nat} {r c : Nat} (hc : c < n) : clP T k lo r0 n r c = clP T k lo (r0 + 1) lo r c := by
  unfold clP
  by_cases g : r ≠ k ∧ lo ≤ c ∧ (r < r0 ∨ r = r0 ∧ c < n)
  · rw [if_pos g, if_pos (by omega)]
  · rw [if_neg g, if_neg (by omega)]
theorem cl_skip (T : Nat → Nat → Rat) {k lo r0 : Nat} (h : r0 = k ∨ T r0 k = 0) (r c : Nat) : clP T k lo r0 lo r c = clP T k lo (r0 + 1) lo r c := by
  unfold clP
  by_cases g : r ≠ k ∧ lo ≤ c ∧ (r < r0 ∨ r = r0 ∧ c < lo)
  · rw [if_pos g, if_pos (by omega)]
  · rw [if_neg g]
    by_cases g' : r ≠ k ∧ lo ≤ c ∧ (r < r0 + 1 ∨ r = r0 + 1 ∧ c < lo)
    · rw [if_pos g']
      obtain rfl : r = r0 := by omega
      rcases h with h | h
      · exact absurd h g'.1
      · rw [h]; grind
    · rw [if_neg g']
theorem cl_end {T : Nat → Nat → Rat} {k lo R : Nat} (h0 : ∀ c, c < lo → T k c = 0) {r c : Nat} (hr : r < R) : clP T k lo R lo r c = clearM T k r c := by
  unfold clP clearM
  by_cases e : r = k
  · subst e
    rw [if_neg (by omega), if_pos rfl]
  · rw [if_neg e]
    by_cases g : lo ≤ c
    · rw [if_pos ⟨e, g, .inl hr⟩]
    · rw [if_neg (by omega), h0 c (by omega)]; grind
/-- what is known at the head of stage k: the same solutions as at first, unit columns, at most m digits -/
structure Stg (M0 M : Nat → Nat → Rat) (R n k : Nat) (P : Nat) : Prop where
  sol : ∀ y, Sol M R n y ↔ Sol M0 R n y
  unit : Unit M R k
  dg : ∀ r c, r < R → c ≤ n → Dg P (M r c)
theorem Stg.start {M0 : Nat → Nat → Rat} {R n P : Nat} (h : ∀ r c, r < R → c ≤ n → Dg P (M0 r c)) : Stg M0 M0 R n 0 P := ⟨fun _ => Iff.rfl, fun j hj => absurd hj (Nat.not_lt_zero j), h⟩
theorem swap_dg {M : Nat → Nat → Rat} {R n i k P : Nat} (hi : i < R) (hk : k < R) (h : ∀ r c, r < R → c ≤ n → Dg P (M r c)) (r c : Nat) (hr : r < R) (hc : c ≤ n) : Dg P (swapM M i k r c) := by
  unfold swapM
  split
  · exact h i c hi hc
  · split
    · exact h k c hk hc
    · exact h r c hr hc
theorem Stg.next {M0 M : Nat → Nat → Rat} {R n i k P : Nat} (h : Stg M0 M R n k P) (hki : k ≤ i) (hi : i < R) (hk : k < R) (hkn : k ≤ n) (hne : M i k ≠ 0) : Stg M0 (stageM M i k) R n (k + 1) (2 * (P * (P * (P * P)))) := by
  refine ⟨fun y => (stage_sol hi hk hne).trans (h.sol y), stage_unit h.unit hki hi hk hne, fun r c hr hc => ?_⟩
  have h1 := swap_dg hi hk h.dg
  have hP := (h.dg k k hk hkn).pos
  have hs : ∀ c, c ≤ n → Dg (P * P) (scaleM (swapM M i k) k (M i k)⁻¹ k c) := fun c hc => by
    unfold scaleM
    rw [if_pos rfl]
    exact (h1 k c hk hc).mul ((h.dg i k hi hkn).inv hne)
  have ho : ∀ r c, r < R → c ≤ n → r ≠ k → Dg P (scaleM (swapM M i k) k (M i k)⁻¹ r c) := fun r c hr hc e => by
    unfold scaleM
    rw [if_neg e]
    exact h1 r c hr hc
  unfold stageM clearM
  split
  · refine (hs c hc).more ?_
    have h2 : P * P * 1 ≤ P * P * (2 * (P * P)) := Nat.mul_le_mul_left _ (by have := Nat.mul_le_mul hP hP; omega)
    have h3 : P * P * (2 * (P * P)) = 2 * (P * (P * (P * P))) := by simp [Nat.mul_assoc, Nat.mul_left_comm]
    omega
  · rename_i e
    exact (ho r c hr hc e).sub ((ho r k hr hkn e).mul (hs c hc))
end Go.Proofs.YtionognmgcabbaaGreat.Ratio
/- A region that draws its order, whose values hang on the order (new memory), but whose values' laws do not: one look at each operation serves every order. -/
namespace Go.Proofs.YtionognmgcabbaaGreat.Rel
open Go.RowKit Go.Proofs.YtionognmgcabbaaGreat Go.Proofs.YtionognmgcabbaaGreat.Base
set_option linter.unusedVariables false
section
variable {P : Program} {ops : Array Oper} {md : Region.Mode}
/-- what one operation leaves: a value and a world -/
def upon (P : Program) (R : Value → World → Prop) : Result Next → Prop
  | .ok (.value u) w' => R u w'
  | .ok .skip w' => R undef w'
  | .ok (.enter f args) w' => Calls P f args w' fun e w'' => ∃ v, e = .returned v ∧ R v w''
  | _ => False
def stepAt (P : Program) (o : Oper) (a : Act) (w : World) (R : Value → World → Prop) : Prop := upon P R ((execOp a.eval o).run P w)
theorem wp_of_step {o : Oper} {a : Act} {w : World} {R : Value → World → Prop} {K : Act → World → Prop} {Q : Exit → Act → World → Prop} (h : stepAt P o a w R) (hK : ∀ v w', R v w' → K (a.put o.dst v) w') : o.wp P a w K Q := by
  unfold stepAt at h
  unfold Oper.wp
  generalize (execOp a.eval o).run P w = r at *
  cases r with
  | ok n w' =>
    cases n <;> simp only [upon] at h <;> simp only [Oper.upon]
    case value u => exact hK _ _ h
    case skip => exact hK _ _ h
    case enter f args => exact h.mono fun e w'' ⟨v, he, hv⟩ => by subst he; exact hK _ _ hv
  | halt x w' => simp only [upon] at h
abbrev Fam := Nat → Value → World → Prop
/-- all slots of the head hold these values -/
def putL : List Oper → Nat → (Nat → Value) → Act → Act
  | [], _, _, a => a
  | o :: r, k, vs, a => putL r (k + 1) vs (a.put o.dst (vs k))
def deps (md : Region.Mode) (G : Fam) (vs : Nat → Value) (w : World) (o : Oper) : Prop := ∀ e ∈ o.after, Region.binds md e = true → G e.on (vs e.on) w
def setG (G : Fam) (k : Nat) (S : Value → World → Prop) : Fam := fun j => if j = k then S else G j
def Mono (S : Value → World → Prop) : Prop := ∀ v w w', S v w → Below w.heap.size w w' → S v w'
def allG (G : Fam) (vs : Nat → Value) (w : World) : Nat → Prop
  | 0 => True
  | k + 1 => allG G vs w k ∧ G k (vs k) w
/-- one look at each operation, in the order of the text -/
def wpRel (P : Program) (md : Region.Mode) (F : (Nat → Value) → Act) (W : World) (K : Act → World → Prop) : List Oper → Nat → Fam → Prop
  | [], k, G => ∀ vs w, Below W.heap.size W w → allG G vs w k → K (F vs) w
  | o :: r, k, G => ∃ S, Mono S ∧ (∀ vs w, Below W.heap.size W w → deps md G vs w o → stepAt P o (F vs) w (fun v w' => S v w' ∧ Below w.heap.size w w')) ∧ wpRel P md F W K r (k + 1) (setG G k S)
/-! ### What is asked of the region -/
def edgesB (md : Region.Mode) (ops : Array Oper) (n : Nat) : Bool :=
  (List.range n).all fun i => ((ops[i]?).map fun o => o.after.all (fun e => !Region.binds md e || decide (e.on < i)) && o.guard.isNone).getD false
def dstsB (ops : Array Oper) (n : Nat) : Bool :=
  (List.range n).all fun i => (List.range i).all fun j => match (ops[i]?).bind (·.dst), (ops[j]?).bind (·.dst) with
    | some d, some d' => d != d'
    | _, _ => true
def headL (n m : Nat) : Array Bool := (Array.range m).map fun i => decide (i < n)
def relB (md : Region.Mode) (ops : Array Oper) (n : Nat) : Bool :=
  decide (n ≤ ops.size) && edgesB md ops n && dstsB ops n && (decide (n = ops.size) || (decide (n < ops.size) && Region.sinkB md ops n && Region.chainB md ops n)) && Region.seqB md ops (ops.size - n) n (headL n ops.size)
theorem edges_spec {n i : Nat} {o : Oper} (h : edgesB md ops n = true) (hi : i < n) (ho : ops[i]? = some o) : (∀ e ∈ o.after, Region.binds md e = true → e.on < i) ∧ o.guard = none := by
  have h1 := List.all_eq_true.1 h i (List.mem_range.2 hi)
  rw [ho] at h1
  simp only [Option.map_some, Option.getD_some, Bool.and_eq_true, Array.all_eq_true_iff_forall_mem, Bool.or_eq_true, Bool.not_eq_true', decide_eq_true_eq, Option.isNone_iff_eq_none] at h1
  exact ⟨fun e he hb => (h1.1 e he).resolve_left (by simp [hb]), h1.2⟩
theorem dsts_spec {n i j : Nat} {d d' : Tmp} (h : dstsB ops n = true) (hi : i < n) (hj : j < n) (hij : i ≠ j) (hd : (ops[i]?).bind (·.dst) = some d) (hd' : (ops[j]?).bind (·.dst) = some d') : d ≠ d' := by
  have key : ∀ {i j : Nat} {d d' : Tmp}, i < n → j < i → (ops[i]?).bind (·.dst) = some d → (ops[j]?).bind (·.dst) = some d' → d ≠ d' := by
    intro i j d d' hi hj hd hd'
    have h1 := List.all_eq_true.1 h i (List.mem_range.2 hi)
    have h2 := List.all_eq_true.1 h1 j (List.mem_range.2 hj)
    rw [hd, hd'] at h2
    simpa using h2
  rcases Nat.lt_or_gt_of_ne hij with h1 | h1
  · exact (key hj h1 hd' hd).symm
  · exact key hi h1 hd hd'
/-! ### The slots -/
theorem put_self (a : Act) (d : Tmp) : a.put (some d) (a.tmps.getD d undef) = a := by
  unfold Act.put
  have : a.tmps.setIfInBounds d (a.tmps.getD d undef) = a.tmps := by
    apply Array.ext
    · simp
    · intro i h1 h2
      rw [Array.getElem_setIfInBounds]
      split
      · rename_i e; subst e; simp [h2]
      · rfl
  show ({ a with tmps := a.tmps.setIfInBounds d (a.tmps.getD d undef) } : Act) = a
  rw [this]
theorem put_put (a : Act) (d : Option Tmp) (u v : Value) : (a.put d u).put d v = a.put d v := by
  cases d with
  | none => rfl
  | some d => simp [Act.put]
theorem put_swap (a : Act) {d d' : Option Tmp} (u v : Value) (h : d = none ∨ d' = none ∨ d ≠ d') : (a.put d u).put d' v = (a.put d' v).put d u := by
  cases d with
  | none => rfl
  | some d =>
    cases d' with
    | none => rfl
    | some d' =>
      have hne : d ≠ d' := by
        rcases h with h | h | h
        · cases h
        · cases h
        · exact fun e => h (by rw [e])
      simp only [Act.put]
      rw [Array.setIfInBounds_comm _ _ hne]
theorem putL_out : ∀ (l : List Oper) (k : Nat) (vs : Nat → Value) (a : Act) (d : Option Tmp) (v : Value), (∀ o ∈ l, d = none ∨ o.dst = none ∨ d ≠ o.dst) → (putL l k vs a).put d v = putL l k vs (a.put d v)
  | [], _, _, _, _, _, _ => rfl
  | o :: r, k, vs, a, d, v, h => by
    rw [putL, putL, putL_out r (k + 1) vs _ d v fun o' ho' => h o' (by simp [ho'])]
    congr 1
    refine (put_swap a _ _ ?_)
    rcases h o (by simp) with h | h | h
    · exact .inr (.inl h)
    · exact .inl h
    · exact .inr (.inr h.symm)
theorem putL_congr : ∀ (l : List Oper) (k : Nat) (vs vs' : Nat → Value) (a : Act), (∀ j, k ≤ j → vs j = vs' j) → putL l k vs a = putL l k vs' a
  | [], _, _, _, _, _ => rfl
  | o :: r, k, vs, vs', a, h => by
    rw [putL, putL, h k (Nat.le_refl _)]
    exact putL_congr r (k + 1) vs vs' _ fun j hj => h j (by omega)
theorem putL_put : ∀ (l : List Oper) (k i : Nat) (vs : Nat → Value) (a : Act) (o : Oper) (v : Value), l[i]? = some o → (∀ j oj, l[j]? = some oj → j ≠ i → o.dst = none ∨ oj.dst = none ∨ o.dst ≠ oj.dst) →
    (putL l k vs a).put o.dst v = putL l k (fun j => if j = k + i then v else vs j) a
  | [], _, _, _, _, _, _, h, _ => by cases h
  | o' :: r, k, 0, vs, a, o, v, h, hd => by
    obtain rfl : o' = o := by simpa using h
    rw [putL, putL, putL_out r (k + 1) vs _ o'.dst v fun oj hoj => by
      obtain ⟨j, hj⟩ := List.getElem?_of_mem hoj
      exact hd (j + 1) oj (by simpa using hj) (by omega), put_put]
    simp only [Nat.add_zero, if_true]
    exact putL_congr r (k + 1) _ _ _ fun j hj => by rw [if_neg (by omega)]
  | o' :: r, k, i + 1, vs, a, o, v, h, hd => by
    rw [putL, putL, putL_put r (k + 1) i vs _ o v (by simpa using h) fun j oj hj hne => hd (j + 1) oj (by simpa using hj) (by omega)]
    rw [if_neg (by omega)]
    congr 1
    funext j
    rw [show k + 1 + i = k + (i + 1) by omega]
theorem putL_same : ∀ (l : List Oper) (k : Nat) (vs : Nat → Value) (a : Act), (∀ i o d, l[i]? = some o → o.dst = some d → vs (k + i) = a.tmps.getD d undef) → putL l k vs a = a
  | [], _, _, _, _ => rfl
  | o :: r, k, vs, a, h => by
    have e : a.put o.dst (vs k) = a := by
      cases hd : o.dst with
      | none => rfl
      | some d =>
        have := h 0 o d (by simp) hd
        rw [Nat.add_zero] at this
        rw [this]; exact put_self a d
    rw [putL, e]
    exact putL_same r (k + 1) vs a fun i o' d hi hd => by
      have := h (i + 1) o' d (by simpa using hi) hd
      rw [show k + 1 + i = k + (i + 1) by omega]; exact this
/-! ### What the looks say -/
theorem wpRel_spec {F : (Nat → Value) → Act} {W : World} {K : Act → World → Prop} : ∀ (l : List Oper) (k : Nat) (G : Fam), (∀ i o, l[i]? = some o → ∀ e ∈ o.after, Region.binds md e = true → e.on < k + i) → wpRel P md F W K l k G →
    ∃ G' : Fam, (∀ j, j < k → G' j = G j) ∧ (∀ i o, l[i]? = some o → Mono (G' (k + i)) ∧ ∀ vs w, Below W.heap.size W w → deps md G' vs w o → stepAt P o (F vs) w (fun v w' => G' (k + i) v w' ∧ Below w.heap.size w w')) ∧
      (∀ vs w, Below W.heap.size W w → allG G' vs w (k + l.length) → K (F vs) w)
  | [], k, G, _, h => ⟨G, fun _ _ => rfl, fun i o hi => (by cases hi), h⟩
  | o :: r, k, G, hed, h => by
    obtain ⟨S, hM, hst, hr⟩ := h
    obtain ⟨G', h1, h2, h3⟩ := wpRel_spec r (k + 1) (setG G k S) (fun i o' hi e he hb => by have := hed (i + 1) o' (by simpa using hi) e he hb; omega) hr
    have hk : G' k = S := by rw [h1 k (by omega)]; unfold setG; rw [if_pos rfl]
    refine ⟨G', fun j hj => ?_, fun i o' hi => ?_, fun vs w hw ha => h3 vs w hw (by rw [show k + 1 + r.length = k + (o :: r).length by simp; omega]; exact ha)⟩
    · rw [h1 j (by omega)]; unfold setG; rw [if_neg (by omega)]
    · cases i with
      | zero =>
        obtain rfl : o = o' := by simpa using hi
        rw [Nat.add_zero, hk]
        refine ⟨hM, fun vs w hw hdp => hst vs w hw fun e he hb => ?_⟩
        have := hdp e he hb
        have hlt := hed 0 o (by simp) e he hb
        rw [h1 e.on (by omega)] at this
        unfold setG at this
        rwa [if_neg (by omega)] at this
      | succ i =>
        have := h2 i o' (by simpa using hi)
        rw [show k + 1 + i = k + (i + 1) by omega] at this
        exact this
theorem allG_of {G : Fam} {vs : Nat → Value} {w : World} : ∀ (k : Nat), (∀ i, i < k → G i (vs i) w) → allG G vs w k
  | 0, _ => trivial
  | k + 1, h => ⟨allG_of k fun i hi => h i (by omega), h k (by omega)⟩
/-! ### Whatever order is picked -/
theorem count_zero {n : Nat} {listed : Array Bool} (h : (List.range n).countP (fun i => !listed.getD i false) = 0) : ∀ i, i < n → listed.getD i false = true := fun i hi => by
  have := List.countP_eq_zero.1 h i (List.mem_range.2 hi)
  simpa using this
theorem count_pos {n f : Nat} {listed : Array Bool} (h : (List.range n).countP (fun i => !listed.getD i false) = f + 1) : ∃ i, i < n ∧ listed.getD i false = false ∧ ∀ j, j < i → listed.getD j false = true := by
  have hex : ∃ i, i < n ∧ listed.getD i false = false := by
    refine Classical.byContradiction fun hc => ?_
    have : (List.range n).countP (fun i => !listed.getD i false) = 0 := List.countP_eq_zero.2 fun i hi => by
      have hi := List.mem_range.1 hi
      cases hb : listed.getD i false
      · exact absurd ⟨i, hi, hb⟩ hc
      · simp
    omega
  obtain ⟨i, hi, hb⟩ := hex
  induction i using Nat.strongRecOn with
  | _ i ih =>
    by_cases hall : ∀ j, j < i → listed.getD j false = true
    · exact ⟨i, hi, hb, hall⟩
    · obtain ⟨j, hj⟩ := Classical.not_forall.1 hall
      obtain ⟨hj1, hj2⟩ := Classical.not_imp.1 hj
      exact ih j hj1 (by omega) (by simpa using hj2)
theorem count_set {n f i : Nat} {listed : Array Bool} (hi : i < n) (hs : n ≤ listed.size) (hb : listed.getD i false = false) (h : (List.range n).countP (fun i => !listed.getD i false) = f + 1) : (List.range n).countP (fun j => !(listed.setIfInBounds i true).getD j false) = f := by
  have key : ∀ m, m ≤ n → (List.range m).countP (fun j => !listed.getD j false) = (List.range m).countP (fun j => !(listed.setIfInBounds i true).getD j false) + (if i < m then 1 else 0) := by
    intro m
    induction m with
    | zero => intro _; simp
    | succ m ih =>
      intro hm
      have := ih (by omega)
      rw [List.range_succ, List.countP_append, List.countP_append, this]
      by_cases him : i = m
      · subst him
        have h1 : (listed.setIfInBounds i true).getD i false = true := by simp [show i < listed.size by omega]
        rw [List.countP_singleton, List.countP_singleton, h1, hb]
        simp
      · have e : (if i < m + 1 then 1 else 0 : Nat) = if i < m then 1 else 0 := by
          by_cases hlt : i < m
          · rw [if_pos hlt, if_pos (by omega)]
          · rw [if_neg hlt, if_neg (by omega)]
        rw [List.countP_singleton, List.countP_singleton, getD_set_ne false him, e]
        omega
  have := key n (Nat.le_refl _)
  rw [if_pos hi] at this
  omega
theorem headL_get (n m i : Nat) (h : n ≤ m) : (headL n m).getD i false = decide (i < n) := by
  unfold headL
  by_cases hi : i < m
  · simp [hi]
  · simp [hi]; omega
theorem listed_ext {n : Nat} {listed : Array Bool} (inv : HeadInv md ops n listed) (hn : n ≤ ops.size) (h : ∀ i, i < n → listed.getD i false = true) : listed = headL n ops.size := by
  apply Array.ext
  · simp [headL, inv.size]
  · intro i h1 h2
    have hi : i < ops.size := by rw [inv.size] at h1; exact h1
    have e1 : listed.getD i false = listed[i] := by simp [h1]
    have e2 := headL_get n ops.size i hn
    have e3 : (headL n ops.size).getD i false = (headL n ops.size)[i] := by simp [h2]
    rw [← e1, ← e3, e2]
    by_cases hlt : i < n
    · rw [h i hlt]; simp [hlt]
    · have := inv.tail i (by omega) hi
      rw [getD_both this]; simp [hlt]
structure RInv (md : Region.Mode) (ops : Array Oper) (n : Nat) (G : Fam) (hd : List Oper) (a0 : Act) (W : World) (listed : Array Bool) (a : Act) (w : World) : Prop where
  inv : HeadInv md ops n listed
  cls : Below W.heap.size W w
  vals : ∃ vs, a = putL hd 0 vs a0 ∧ ∀ i, i < n → listed.getD i false = true → G i (vs i) w
theorem wpAny_rel {n : Nat} {G : Fam} {a0 : Act} {W : World} {Q : Exit → Act → World → Prop} {l : List Oper} (hB : relB md l.toArray n = true)
    (h2 : ∀ i o, (l.take n)[i]? = some o → Mono (G i) ∧ ∀ vs w, Below W.heap.size W w → deps md G vs w o → stepAt P o (putL (l.take n) 0 vs a0) w (fun v w' => G i v w' ∧ Below w.heap.size w w'))
    (h3 : ∀ vs w, Below W.heap.size W w → allG G vs w n → wpList P l.toArray Q (l.drop n) (putL (l.take n) 0 vs a0) w) :
    ∀ (f : Nat) (listed : Array Bool) (a : Act) (w : World), RInv md l.toArray n G (l.take n) a0 W listed a w → (List.range n).countP (fun i => !listed.getD i false) = f → wpAny P md l.toArray Q (f + (l.toArray.size - n)) listed a w := by
  simp only [relB, Bool.and_eq_true, Bool.or_eq_true, decide_eq_true_eq] at hB
  obtain ⟨⟨⟨⟨hn, hed⟩, hds⟩, htl⟩, hsq⟩ := hB
  have hnl : n ≤ l.length := by simpa using hn
  have hdl : (l.drop n).length = l.toArray.size - n := by simp
  intro f
  induction f with
  | zero =>
    intro listed a w hI hc
    have hall := count_zero hc
    have e := listed_ext hI.inv hn hall
    obtain ⟨vs, rfl, hv⟩ := hI.vals
    rw [Nat.zero_add, ← hdl]
    refine wpAny_of_seq (l.drop n) n listed _ w (fun j => by simp [List.getElem?_drop]) ?_ (h3 vs w hI.cls (allG_of n fun i hi => hv i hi (hall i hi)))
    rw [hdl, e]; exact hsq
  | succ f ih =>
    intro listed a w hI hc
    obtain ⟨i0, hi0, hb0, hbefore⟩ := count_pos hc
    have hsz := hI.inv.size
    have hrdy : i0 ∈ Region.ready md l.toArray listed := by
      have hlt : i0 < l.toArray.size := by omega
      refine mem_ready.2 ⟨getD_in (by omega) hb0, l.toArray[i0], by simp, fun e he hb => ?_⟩
      exact hbefore _ ((edges_spec hed hi0 (by simp)).1 e he hb)
    rw [show f + 1 + (l.toArray.size - n) = (f + (l.toArray.size - n)) + 1 by omega]
    refine ⟨fun h => (by rw [h] at hrdy; cases hrdy), fun i hi => ?_⟩
    have hin : i < n := by
      rcases Nat.lt_or_ge i n with h | h
      · exact h
      · rcases htl with htl | htl
        · obtain ⟨_, o, ho, _⟩ := mem_ready.1 hi
          have := (Array.getElem?_eq_some_iff.1 ho).1
          omega
        · exact absurd hi (tail_waits htl.1.2 htl.2 htl.1.1 hI.inv _ i0 rfl hi0 (getD_in (by omega) hb0) i h)
    obtain ⟨hun, o, ho, hall⟩ := mem_ready.1 hi
    obtain ⟨hlow, hgd⟩ := edges_spec hed hin ho
    have hli : (l.take n)[i]? = some o := by
      rw [List.getElem?_take, if_pos hin]; simpa using ho
    obtain ⟨vs, rfl, hv⟩ := hI.vals
    obtain ⟨hM, hst⟩ := h2 i o hli
    have hstep := hst vs w hI.cls fun e he hb => hv e.on (by have := hlow e he hb; omega) (hall e he hb)
    have hw : Region.wanted o (yielded l.toArray (putL (l.take n) 0 vs a0).tmps) = true := by simp [Region.wanted, hgd]
    unfold wpOp
    rw [ho]
    simp only [hw, if_true]
    refine .inl (wp_of_step hstep fun v w' ⟨hv', hbw⟩ => ?_)
    refine ih _ _ _ ⟨hI.inv.set hi hin, hI.cls.trans (hbw.mono hI.cls.size), fun j => if j = 0 + i then v else vs j, ?_, fun j hj hl => ?_⟩ (count_set hin (by omega) (getD_both hun) hc)
    · refine putL_put (l.take n) 0 i vs a0 o v hli fun j oj hj hne => ?_
      cases hd : o.dst with
      | none => exact .inl rfl
      | some d =>
        cases hd' : oj.dst with
        | none => exact .inr (.inl rfl)
        | some d' =>
          have hjn : j < n := by
            have := (List.getElem?_eq_some_iff.1 hj).1
            simp at this; omega
          have hj' : l[j]? = some oj := by rw [List.getElem?_take, if_pos hjn] at hj; exact hj
          have ho' : l[i]? = some o := by simpa using ho
          refine .inr (.inr fun e => dsts_spec hds hin hjn (Ne.symm hne) (d := d) (d' := d') (by simp [ho', hd]) (by simp [hj', hd']) (Option.some.inj e))
    · by_cases hji : j = i
      · subst hji
        show G j (if j = 0 + j then v else vs j) w'
        rw [if_pos (by omega)]; exact hv'
      · show G j (if j = 0 + i then v else vs j) w'
        rw [if_neg (by omega)]
        rw [getD_set_ne false (Ne.symm hji)] at hl
        have hjn : j < (l.take n).length := by simp; omega
        exact (h2 j _ (List.getElem?_eq_getElem hjn)).1 _ _ _ (hv j hj hl) hbw
/-- **one look at each operation serves every order** -/
theorem wp_region_rel {id : Nat} {Q : Exit → Act → World → Prop} {a : Act} {W : World} {l : List Oper} (n : Nat) (hm : P.follows .mixedOrders = true) (hB : relB .any l.toArray n = true)
    (h : ∀ F : (Nat → Value) → Act, (∀ vs, F vs = putL (l.take n) 0 vs a) → wpRel P .any F W (wpList P l.toArray Q (l.drop n)) (l.take n) 0 (fun _ _ _ => True)) : (Code.region id l.toArray true).wp P Q a W := by
  have hB' := hB
  simp only [relB, Bool.and_eq_true, Bool.or_eq_true, decide_eq_true_eq] at hB'
  obtain ⟨⟨⟨⟨hn, hed⟩, hds⟩, htl⟩, hsq⟩ := hB'
  have hnl : n ≤ l.length := by simpa using hn
  have hlen : (l.take n).length = n := by simp; omega
  obtain ⟨G, _, h2, h3⟩ := wpRel_spec (l.take n) 0 _ (fun i o hi e he hb => by
    have hin : i < n := by
      have := (List.getElem?_eq_some_iff.1 hi).1
      rwa [hlen] at this
    have ho : l.toArray[i]? = some o := by rw [List.getElem?_take, if_pos hin] at hi; simpa using hi
    rw [Nat.zero_add]
    exact (edges_spec hed hin ho).1 e he hb) (h (fun vs => putL (l.take n) 0 vs a) fun _ => rfl)
  simp only [Nat.zero_add, hlen] at h2 h3
  refine wp_region_any hm ?_
  have inv0 : HeadInv .any l.toArray n (Array.replicate l.toArray.size false) :=
    ⟨by simp, fun j oj _ hl => (by rw [getD_replicate_false] at hl; cases hl), fun t _ ht => getD_in (by simpa using ht) (getD_replicate_false _ _)⟩
  have hc : (List.range n).countP (fun i => !(Array.replicate l.toArray.size false).getD i false) = n := by
    rw [List.countP_eq_length.2 fun i _ => by rw [getD_replicate_false]; rfl]
    simp
  have := wpAny_rel hB h2 h3 n _ a W.drew ⟨inv0, (Below.refl _ _).drew, fun i => (((l.take n)[i]?.bind (·.dst)).map fun d => a.tmps.getD d undef).getD undef, ?_, fun i _ hl => (by rw [getD_replicate_false] at hl; cases hl)⟩ hc
  · rw [show n + (l.toArray.size - n) = l.toArray.size by omega] at this
    exact this
  · refine (putL_same (l.take n) 0 _ a fun i o d hi hd => ?_).symm
    simp only [Nat.zero_add, hi, Option.bind_some, hd, Option.map_some, Option.getD_some]
/-! ### The looks, one kind each -/
variable {r : List Oper} {F : (Nat → Value) → Act} {W : World} {K : Act → World → Prop} {o : Oper} {k : Nat} {G : Fam}
/-- an operation that yields the same value everywhere and leaves the world alone -/
theorem rel_pure (h : ∃ c : Value, (∀ vs w, Below W.heap.size W w → deps md G vs w o → ∀ R : Value → World → Prop, R c w → stepAt P o (F vs) w R) ∧ wpRel P md F W K r (k + 1) (setG G k fun v _ => v = c)) : wpRel P md F W K (o :: r) k G :=
  let ⟨c, h1, h2⟩ := h
  ⟨fun v _ => v = c, fun _ _ _ h _ => h, fun vs w hw hd => h1 vs w hw hd _ ⟨rfl, Below.refl _ _⟩, h2⟩
/-- an operation whose value obeys a law that lasts -/
theorem rel_law {S : Value → World → Prop} (hM : Mono S) (h : ∀ vs w, Below W.heap.size W w → deps md G vs w o → stepAt P o (F vs) w fun v w' => S v w' ∧ Below w.heap.size w w') (hr : wpRel P md F W K r (k + 1) (setG G k S)) : wpRel P md F W K (o :: r) k G :=
  ⟨S, hM, h, hr⟩
/-- a call that yields the same value everywhere and may lay new memory -/
theorem rel_same (h : ∃ c : Value, (∀ vs w, Below W.heap.size W w → deps md G vs w o → stepAt P o (F vs) w fun v w' => v = c ∧ Below w.heap.size w w') ∧ wpRel P md F W K r (k + 1) (setG G k fun v _ => v = c)) : wpRel P md F W K (o :: r) k G :=
  let ⟨c, h1, h2⟩ := h
  ⟨fun v _ => v = c, fun _ _ _ h _ => h, h1, h2⟩
/-- behind all operations -/
theorem rel_end (h : ∀ vs w, Below W.heap.size W w → allG G vs w k → K (F vs) w) : wpRel P md F W K [] k G := h
/-- a new block -/
def NewB (B : Nat) (cs : Array Value) (t : TypeId) (v : Value) (w : World) : Prop := ∃ g, v = .pointer (some ⟨g, 0, none⟩) ∧ B ≤ g ∧ w.heap[g]? = some (.cells cs t (0, 0))
theorem newB_mono (B : Nat) (cs : Array Value) (t : TypeId) : Mono (NewB B cs t) := fun v w w' ⟨g, e, hB, h⟩ hb => by
  have hlt : g < w.heap.size := by
    rcases Nat.lt_or_ge g w.heap.size with hlt | hge
    · exact hlt
    · rw [Array.getElem?_eq_none hge] at h; cases h
  exact ⟨g, e, hB, (hb.block g hlt).trans h⟩
theorem rel_alloc {cs : Array Value} {t : TypeId} (h : ∀ vs w, Below W.heap.size W w → deps md G vs w o → ∀ R : Value → World → Prop, R (.pointer (some ⟨w.heap.size, 0, none⟩)) (w.alloc (.cells cs t)) → stepAt P o (F vs) w R) (hr : wpRel P md F W K r (k + 1) (setG G k (NewB W.heap.size cs t))) : wpRel P md F W K (o :: r) k G :=
  ⟨_, newB_mono _ _ _, fun vs w hw hd => h vs w hw hd _ ⟨⟨w.heap.size, rfl, hw.size, by show (w.heap.push _)[w.heap.size]? = _; simp⟩, (Below.refl _ _).alloc (Nat.le_refl _) _⟩, hr⟩
/-- what is known of an operation's ground -/
theorem dep {vs : Nat → Value} {w : World} (hd : deps md G vs w o) (j : Nat) (h : (o.after.any fun e => Region.binds md e && e.on == j) = true) : G j (vs j) w := by
  obtain ⟨e, he, hb⟩ := Array.any_eq_true'.1 h
  simp only [Bool.and_eq_true, beq_iff_eq] at hb
  obtain ⟨h1, rfl⟩ := hb
  exact hd e he h1
/-- what is known in the end -/
theorem fin {vs : Nat → Value} {w : World} : ∀ {n : Nat}, allG G vs w n → ∀ (i : Nat), i < n → G i (vs i) w
  | 0, _, i, h => absurd h (Nat.not_lt_zero i)
  | n + 1, ha, i, h => by
    rcases Nat.lt_succ_iff_lt_or_eq.1 h with h | h
    · exact fin ha.1 i h
    · subst h; exact ha.2
theorem stepAt_eq (P : Program) (o : Oper) (a : Act) (w : World) (R : Value → World → Prop) : stepAt P o a w R = upon P R ((execOp a.eval o).run P w) := rfl
theorem upon_value (P : Program) (R : Value → World → Prop) (u : Value) (w : World) : upon P R (.ok (.value u) w) = R u w := rfl
theorem upon_enter (P : Program) (R : Value → World → Prop) (f : FuncId) (args : Array Value) (w : World) : upon P R (.ok (.enter f args) w) = Calls P f args w fun e w'' => ∃ v, e = .returned v ∧ R v w'' := rfl
attribute [irreducible] stepAt upon wpRel
end
end Go.Proofs.YtionognmgcabbaaGreat.Rel
/- The program: whether a list are chances. -/
namespace Go.Proofs.YtionognmgcabbaaGreat.Ratio
open Go.RowKit Go.Proofs.YtionognmgcabbaaGreat Go.Proofs.YtionognmgcabbaaGreat.Base Go.Proofs.YtionognmgcabbaaGreat.Mem Go.Proofs.YtionognmgcabbaaGreat.NatM Go.Proofs.YtionognmgcabbaaGreat.Nat32 Go.Proofs.YtionognmgcabbaaGreat.RatM Go.Proofs.YtionognmgcabbaaGreat.Blk Go.Proofs.YtionognmgcabbaaGreat.MemF Go.Proofs.YtionognmgcabbaaGreat.ChM Go.Proofs.YtionognmgcabbaaGreat.ValF Go.Proofs.YtionognmgcabbaaGreat.GaussM
open Go.Proofs.YtionognmgcabbaaGreat.Inv (natOf natOf_eq len_pos Rat3 not_slice not_bool frz)
set_option linter.unusedVariables false
theorem closureF_any (n d : Int) (w : World) : Calls Tryz.prog 184 #[.agg #[.int .i64 n, .int .i64 d]] w fun e w' => e = .returned (.bool (!vfB n d)) ∧ Below w.heap.size w w' := by
  have HV := Lib.hid (validI_any n d (w.alloc (.cells #[.int .i64 n, .int .i64 d] 43)))
  have HB : Hid (Below w.heap.size w (w.alloc (.cells #[.int .i64 n, .int .i64 d] 43))) := Lib.hid ((Below.refl _ _).alloc (Nat.le_refl _) _)
  go_enter Tryz.func184, Tryz.ntmps184
  go_wp2_with fail
  refine HV.out.mono ?_
  rintro e w1 ⟨rfl, hb1⟩
  have HB1 := Lib.hid (Base.Below.nextA HB.out hb1)
  clear hb1 HB HV
  go_wp2
  go_ret
  exact ⟨rfl, HB1.out⟩
def IdxRetB (b : Bool) (w : World) (e : Ending) (w' : World) : Prop := ∃ r : Int, e = .returned (.int .i64 r) ∧ ((r = -1 ∧ b = true) ∨ (0 ≤ r ∧ b = false)) ∧ Below w.heap.size w w'
set_option maxHeartbeats 1000000 in
theorem indexF_any {A : Option Addr} {c B n : Nat} {fs : List Int} (w : World) (hx : RdF w B A n fs) (hB : B ≤ w.heap.size) (hn : n ≤ 1099511627776) :
    Calls Tryz.prog 192 #[.slice A n c, .func (Fn.func 184) #[] #[]] w (IdxRetB (vfAll fs n) w) := by
  have HX := Lib.hid (hx.more hB)
  clear hx
  go_enter Tryz.func192, Tryz.ntmps192
  go_wp2
  go_loopw [8] (fun iv wr => ∃ i : Nat, iv = .int .i64 (i : Int) ∧ i ≤ n ∧ Hid (∀ j, j < i → vfB (fs.getD (2 * j) 0) (fs.getD (2 * j + 1) 0) = true) ∧ Hid (Below w.heap.size w wr)) (fun iv _ => n - (intOf iv).toNat)
  case atStart => exact ⟨0, rfl, Nat.zero_le _, Lib.hid fun j hj => absurd hj (Nat.not_lt_zero j), Lib.hid (Below.refl _ _)⟩
  case round =>
    obtain ⟨i, rfl, hi, hall, HB⟩ := hrel
    by_cases hlt : i < n
    · obtain ⟨b, off, rfl, hbl, g1, g2⟩ := (HX.out.below HB.out (Nat.le_refl _)).at hlt
      have HV := Lib.hid (fun W => closureF_any (fs.getD (2 * i) 0) (fs.getD (2 * i + 1) 0) W)
      have HNO := Lib.hid (fun h => (show vfAll fs n = false from all_no hlt h))
      have HYES := Lib.hid (fun (h : vfB (fs.getD (2 * i) 0) (fs.getD (2 * i + 1) 0) = true) j (hj : j < i + 1) => (show vfB (fs.getD (2 * j) 0) (fs.getD (2 * j + 1) 0) = true by
        rcases Nat.lt_or_ge j i with h1 | h1
        · exact hall.out j h1
        · obtain rfl : j = i := by omega
          exact h))
      have hsz := HB.out.size
      generalize fs.getD (2 * i) 0 = x0 at *
      generalize fs.getD (2 * i + 1) 0 = x1 at *
      go_wp2_with fail
      refine (HV.out _).mono ?_
      rintro e w1 ⟨rfl, hb1⟩
      have HB1 := Lib.hid (Base.Below.nextA HB.out hb1)
      cases hv : vfB x0 x1 with
      | false =>
        have HE := Lib.hid (HNO.out hv)
        clear HNO HYES HV hb1 hv HB g1 g2 hall
        go_wp2
        go_ret
        exact ⟨(i : Int), rfl, .inr ⟨by omega, HE.out⟩, HB1.out⟩
      | true =>
        have HA := Lib.hid (HYES.out hv)
        clear HNO HYES HV hb1 hv HB g1 g2 hall
        go_wp2
        go_roundw
        case rel => exact ⟨i + 1, by simp, hlt, HA, HB1⟩
        case measure => simp [intOf]; omega
    · obtain rfl : i = n := by omega
      have HE : Hid (vfAll fs i = true) := Lib.hid (all_range.2 hall.out)
      clear hall
      go_wp2
      go_ret
      exact ⟨-1, rfl, .inl ⟨rfl, HE.out⟩, HB.out⟩
/-- PART 2 -/
def put3 (w : World) (b : Nat) (v0 v1 v2 : Value) : World := ((w.setCell ⟨b, 0, none⟩ v0).setCell ⟨b, 1, none⟩ v1).setCell ⟨b, 2, none⟩ v2
theorem put3_blk {w : World} {b : Nat} {t : TypeId} {u0 u1 u2 : Value} (K : Blk w b t #[u0, u1, u2]) (v0 v1 v2 : Value) : Blk (put3 w b v0 v1 v2) b t #[v0, v1, v2] := ((K.setTo 0 v0 rfl).setTo 1 v1 rfl).setTo 2 v2 rfl
theorem put3_below {w0 w : World} {b B : Nat} (h : Below B w0 w) (hb : B ≤ b) (v0 v1 v2 : Value) : Below B w0 (put3 w b v0 v1 v2) := ((h.setCell (p := ⟨b, 0, none⟩) hb v0).setCell (p := ⟨b, 1, none⟩) hb v1).setCell (p := ⟨b, 2, none⟩) hb v2
theorem rdU_put3 {w : World} {A : Option Addr} {xs : List Nat} {b : Nat} {t : TypeId} {s : Bool} {A1 A2 : Option Addr} {k1 c1 k2 c2 : Nat} (h : RdU w w.heap.size A xs) (K : Blk w b t #[.bool s, .slice A1 k1 c1, .slice A2 k2 c2]) (v0 v1 v2 : Value) : RdU (put3 w b v0 v1 v2) (put3 w b v0 v1 v2).heap.size A xs := by
  have e : (put3 w b v0 v1 v2).heap.size = w.heap.size := by simp [put3]
  rw [e]
  have K0 := K.setTo 0 v0 rfl
  have K1 := K0.setTo 1 v1 rfl
  exact ((h.non (K.at 0 (v := .bool s) rfl) (not_bool _) _).non (K0.at 1 (v := .slice A1 k1 c1) rfl) (not_slice _ _ _) _).non (K1.at 2 (v := .slice A2 k2 c2) rfl) (not_slice _ _ _) _
theorem IsRt.put3 {w : World} {q : Rat} {v : Value} {b : Nat} {t : TypeId} {s : Bool} {A1 A2 : Option Addr} {k1 c1 k2 c2 : Nat} (h : IsRt w q v) (K : Blk w b t #[.bool s, .slice A1 k1 c1, .slice A2 k2 c2]) (v0 v1 v2 : Value) : IsRt (put3 w b v0 v1 v2) q v := by
  obtain ⟨A, c, A', c', e, h1, h2⟩ := h
  exact ⟨A, c, A', c', e, rdU_put3 h1 K _ _ _, rdU_put3 h2 K _ _ _⟩
theorem IsRt.open {w : World} {q : Rat} {v : Value} (h : IsRt w q v) : ∃ s A1 k1 c1 A2 k2 c2, v = .agg #[.bool s, .slice A1 k1 c1, .slice A2 k2 c2] ∧ IsRt w q (.agg #[.bool s, .slice A1 k1 c1, .slice A2 k2 c2]) := by
  have h' := h
  obtain ⟨A, c, A', c', e, _, _⟩ := h
  rw [e] at h'
  exact ⟨_, A, _, c, A', _, c', e, h'⟩
theorem isRt_mono (q : Rat) : Rel.Mono (fun v w => IsRt w q v) := fun v w w' h hb => h.below hb
theorem containsF_any {A : Option Addr} {c B n : Nat} {fs : List Int} (w : World) (hx : RdF w B A n fs) (hB : B ≤ w.heap.size) (hn : n ≤ 1099511627776) :
    Calls Tryz.prog 183 #[.slice A n c, .func (Fn.func 184) #[] #[]] w fun e w' => e = .returned (.bool (!vfAll fs n)) ∧ Below w.heap.size w w' := by
  have hc := Lib.hid (indexF_any (c := c) w hx hB hn)
  clear hx
  go_enter Tryz.func183, Tryz.ntmps183
  go_wp2_with fail
  refine hc.out.mono ?_
  rintro e w' ⟨r, rfl, ⟨rfl, hb⟩ | ⟨hr, hb⟩, hbl⟩
  · have HB := Lib.hid hbl
    clear hbl
    go_wp2
    go_ret
    exact ⟨ret_bool (by simp [hb]), HB.out⟩
  · have HB := Lib.hid hbl
    clear hbl
    go_wp2
    go_ret
    exact ⟨ret_bool (by simp [hb]), HB.out⟩
theorem areFr_any {A : Option Addr} {c B n : Nat} {fs : List Int} (w : World) (hx : RdF w B A n fs) (hB : B ≤ w.heap.size) (hn : n ≤ 1099511627776) :
    Calls Tryz.prog 164 #[.slice A n c] w fun e w' => e = .returned (.bool (vfAll fs n)) ∧ Below w.heap.size w w' := by
  have hc := Lib.hid (containsF_any (c := c) w hx hB hn)
  clear hx
  go_enter Tryz.func164, Tryz.ntmps164
  go_wp2_with fail
  refine hc.out.mono ?_
  rintro e w' ⟨rfl, hbl⟩
  have HB := Lib.hid hbl
  clear hbl
  go_wp2
  go_ret
  exact ⟨ret_bool (by simp), HB.out⟩
theorem lenF_any (A : Option Addr) (n c : Nat) (w : World) (h : n ≤ 9223372036854775807) :
    Calls Tryz.prog 163 #[.slice A n c] w fun e w' => e = .returned (.int .i64 (n : Int)) ∧ w = w' := by
  go_enter Tryz.func163, Tryz.ntmps163
  go_wp2
  go_ret
  exact ⟨rfl, rfl⟩
def ChRel (fs : List Int) (n g : Nat) (w : World) (iv : Value) (wr : World) : Prop :=
  ∃ (i : Nat) (s : Bool) (A1 : Option Addr) (k1 c1 : Nat) (A2 : Option Addr) (k2 c2 : Nat), iv = .int .i64 (i : Int) ∧ i ≤ n ∧ Hid (Blk wr g 87 #[.bool s, .slice A1 k1 c1, .slice A2 k2 c2]) ∧ Hid (IsRt wr (sumR i (fq fs)) (.agg #[.bool s, .slice A1 k1 c1, .slice A2 k2 c2])) ∧
    Hid (∀ j, j < i → decide (0 ≤ fs.getD (2 * j) 0) = true) ∧ Hid (Below w.heap.size w wr)
theorem cmpQ_zero (q r : Rat) : (cmpQ q r == 0) = decide (q = r) := by
  unfold cmpQ
  by_cases h : q = r
  · simp [h]
  · by_cases h2 : q < r
    · simp [h, h2]
    · simp [h, h2]
theorem whole_rt (n : Int) (q : Rat) (hn : n.natAbs ≤ 1000000000000000000) (h : q.num = n ∧ q.den = 1 ∧ decide (q < 0) = decide (n < 0)) (w : World) : Calls Tryz.prog 69 #[.int .i64 n] w fun e w' => ∃ v, e = .returned v ∧ IsRt w' q v ∧ Below w.heap.size w w' := by
  refine (whole_any n hn w).mono fun e w' hr => ?_
  obtain ⟨A, c, A', c', e1, h1, h2, h3⟩ := hr
  refine ⟨_, e1, ⟨A, c, A', c', ?_, ?_, ?_⟩, h3⟩
  · rw [h.2.2, h.1, h.2.1]
  · rw [h.1]; exact h1
  · rw [h.2.1]; exact h2
set_option maxHeartbeats 4000000 in
set_option maxRecDepth 100000 in
theorem areCh_any {A : Option Addr} {c B n : Nat} {fs : List Int} (w : World) (hx : RdF w B A n fs) (hB : B ≤ w.heap.size) (hn : n ≤ 1099511627776) : Calls Tryz.prog 119 #[.slice A n c] w fun e w' => e = .returned (.bool (chB fs n)) ∧ Below w.heap.size w w' := by
  have HX := Lib.hid (hx.more hB)
  have HFA := Lib.hid (areFr_any (c := c) w hx hB hn)
  have HL := Lib.hid (fun W => lenF_any A n c W (by omega))
  clear hx
  by_cases h12 : ¬ (1 ≤ n ∧ n ≤ 16)
  · have HE : Hid (chB fs n = false) := Lib.hid (by
      by_cases h1 : n < 1
      · exact chB_short h1
      · exact chB_long (by omega))
    have hr : inR (n : Int) 1 16 = false := inR_no (by omega)
    go_enter Tryz.func119, Tryz.ntmps119
    go_wp2_with fail
    refine (HL.out _).mono ?_
    rintro e w1 ⟨rfl, rfl⟩
    go_wp2_with fail
    refine (inRange_any _ _ _ _).mono ?_
    rintro e w1 ⟨rfl, rfl⟩
    rw [hr]
    go_wp2
    go_ret
    exact ⟨by rw [HE.out]; rfl, Below.refl _ _⟩
  obtain ⟨h1, h2⟩ : 1 ≤ n ∧ n ≤ 16 := by omega
  have hr : inR (n : Int) 1 16 = true := inR_yes (by omega)
  go_enter Tryz.func119, Tryz.ntmps119
  go_wp2_with fail
  refine (HL.out _).mono ?_
  rintro e w1 ⟨rfl, rfl⟩
  go_wp2_with fail
  refine (inRange_any _ _ _ _).mono ?_
  rintro e w1 ⟨rfl, rfl⟩
  rw [hr]
  go_wp2_with fail
  refine HFA.out.mono ?_
  rintro e w1 ⟨rfl, hb1⟩
  have HB1 := Lib.hid hb1
  clear hb1
  cases hv : vfAll fs n with
  | false =>
    have HE := Lib.hid (chB_vf hv)
    go_wp2
    go_ret
    exact ⟨by rw [HE.out]; rfl, HB1.out⟩
  | true =>
    have HV := Lib.hid (vfAll_true.1 hv)
    have HV2 := Lib.hid hv
    clear hv HFA h12 hr HL
    go_wp2_with fail
    refine (whole_rt 0 0 (by decide) ⟨rfl, rfl, by decide⟩ _).mono ?_
    rintro e w2 ⟨v, rfl, hv0, hb2⟩
    obtain ⟨s, A1, k1, c1, A2, k2, c2, rfl, hv⟩ := hv0.open
    have HB2 := Lib.hid (Base.Below.nextA HB1.out hb2)
    have HI0 := Lib.hid hv
    clear hb2 hv hv0
    go_upto_region 4 with (fail)
    obtain ⟨W3, hW3⟩ : ∃ W3, W3 = w2.alloc (.cells #[.bool s, .slice A1 k1 c1, .slice A2 k2 c2] 87) := ⟨_, rfl⟩
    rw [← hW3]
    obtain ⟨g3, hg3⟩ : ∃ g3, g3 = w2.heap.size := ⟨_, rfl⟩
    rw [← hg3]
    have hlt3 : w.heap.size ≤ g3 := by rw [hg3]; exact HB2.out.size
    have H0 : Hid (ChRel fs n g3 w (.int .i64 0) W3) := Lib.hid (by
      have hb3 : Below w2.heap.size w2 W3 := by rw [hW3]; exact (Below.refl _ _).alloc (Nat.le_refl _) _
      exact ⟨0, s, A1, k1, c1, A2, k2, c2, rfl, Nat.zero_le _, Lib.hid (by rw [hW3, hg3]; exact Blk.new w2 _ _), Lib.hid (HI0.out.below hb3), Lib.hid (fun j hj => absurd hj (Nat.not_lt_zero j)), Lib.hid (Base.Below.nextA HB2.out hb3)⟩)
    clear hW3 hg3 HI0 HB2 HB1
    go_wp2
    go_loopw [18] (fun iv wr => ChRel fs n g3 w iv wr) (fun iv _ => n - (intOf iv).toNat)
    case atStart => exact H0.out
    case round =>
      obtain ⟨i, s, A1, k1, c1, A2, k2, c2, rfl, hi, K3r, HIr, hall, HB⟩ := hrel
      clear H0
      by_cases hlt : i < n
      · obtain ⟨b, off, rfl, hbl, g1, g2⟩ := (HX.out.below HB.out (Nat.le_refl _)).at hlt
        have HW := Lib.hid (fun W => ratioOf_vf (HV.out i hlt) W)
        have hfq : qf (fs.getD (2 * i) 0) (fs.getD (2 * i + 1) 0) = fq fs i := rfl
        rw [hfq] at HW
        clear hfq
        have HNO := Lib.hid (fun h => (show posAll fs n = false from all_no hlt h))
        have HYES := Lib.hid (fun (h : decide (0 ≤ fs.getD (2 * i) 0) = true) j (hj : j < i + 1) => (show decide (0 ≤ fs.getD (2 * j) 0) = true by
          rcases Nat.lt_or_ge j i with h1 | h1
          · exact hall.out j h1
          · obtain rfl : j = i := by omega
            exact h))
        have HZ : Hid (szR (sumR i (fq fs)) ≤ 200000 ∧ szR (fq fs i) ≤ 200000) := Lib.hid (by
          have z1 := dgb_sz (dgb_sum (n := i) (m := 2) (f := fq fs) (fun j hj => dgb_vf (HV.out j (by omega))))
          have z2 := dgb_sz (dgb_vf (HV.out i hlt))
          exact ⟨by omega, by rw [show fq fs i = qf (fs.getD (2 * i) 0) (fs.getD (2 * i + 1) 0) from rfl]; omega⟩)
        have HSM : Hid (sumR (i + 1) (fq fs) = sumR i (fq fs) + fq fs i) := Lib.hid rfl
        generalize fs.getD (2 * i) 0 = x0 at *
        generalize fs.getD (2 * i + 1) 0 = x1 at *
        generalize fq fs i = q at *
        generalize sumR i (fq fs) = s0 at *
        go_upto_region 7 with (fail)
        obtain ⟨W1, hW1⟩ : ∃ W1, W1 = wr.alloc (.cells #[.int .i64 x0, .int .i64 x1] 43) := ⟨_, rfl⟩
        rw [← hW1]
        obtain ⟨g5, hg5⟩ : ∃ g5, g5 = wr.heap.size := ⟨_, rfl⟩
        rw [← hg5]
        have KF : Hid (Blk W1 g5 43 #[.int .i64 x0, .int .i64 x1]) := Lib.hid (by rw [hW1, hg5]; exact Blk.new wr _ _)
        have hbw : Below wr.heap.size wr W1 := by rw [hW1]; exact (Below.refl _ _).alloc (Nat.le_refl _) _
        have K3 := Lib.hid (K3r.out.belowS hbw)
        have HS := Lib.hid (HIr.out.below hbw)
        have HB1 := Lib.hid (Base.Below.nextA HB.out hbw)
        have y0 := KF.out.at 0 (v := .int .i64 x0) rfl
        clear hW1 hg5 hbw K3r HIr HB g1 g2 hbl hall
        by_cases hx0 : x0 < 0
        · have HE := Lib.hid (chB_neg (HNO.out (by simp; omega)))
          clear HNO HYES
          go_wp2
          go_ret
          exact ⟨by rw [HE.out]; rfl, HB1.out⟩
        have HA := Lib.hid (HYES.out (by simp; omega))
        clear HNO HYES
        go_upto_region 9 with (fail)
        clear y0
        refine Rel.wp_region_rel 4 (by kernel_rfl) (by kernel_rfl) (fun F hF => ?_)
        simp only [List.take_succ_cons, List.take_zero, List.drop_succ_cons, List.drop_zero, Rel.putL] at hF ⊢
        have HF := Lib.hid hF
        clear hF
        have uv := @Rel.upon_value Tryz.prog
        have ue := @Rel.upon_enter Tryz.prog
        apply Rel.rel_pure
        apply Exists.intro
        refine ⟨fun vs wq hq hdp R hR => ?_, ?_⟩
        · (rw [HF.out, Rel.stepAt_eq]; clear hdp; have x0 := (K3.out.belowS hq).at 0 (v := .bool s) rfl; have x1 := (K3.out.belowS hq).at 1 (v := .slice A1 k1 c1) rfl; have x2 := (K3.out.belowS hq).at 2 (v := .slice A2 k2 c2) rfl; go_simp; exact hR)
        apply Rel.rel_pure
        apply Exists.intro
        refine ⟨fun vs wq hq hdp R hR => ?_, ?_⟩
        · (rw [HF.out, Rel.stepAt_eq]; clear hdp; have y0 := (KF.out.belowS hq).at 0 (v := .int .i64 x0) rfl; have y1 := (KF.out.belowS hq).at 1 (v := .int .i64 x1) rfl; go_simp; exact hR)
        refine Rel.rel_law (S := fun v w' => IsRt w' q v) (isRt_mono _) (fun vs wq hq hdp => ?_) ?_
        · (rw [HF.out, Rel.stepAt_eq]; have qd1 : vs 1 = _ := Rel.dep hdp 1 (by kernel_rfl); clear hdp; skip; go_simp; refine (HW.out _).mono ?_; rintro e w7 ⟨A, c, A', c', rfl, d1, d2, hb⟩; exact ⟨_, rfl, ⟨A, c, A', c', rfl, d1.1, d2.1⟩, hb⟩)
        refine Rel.rel_law (S := fun v w' => IsRt w' (s0 + q) v) (isRt_mono _) (fun vs wq hq hdp => ?_) ?_
        · (rw [HF.out, Rel.stepAt_eq]; have qd0 : vs 0 = _ := Rel.dep hdp 0 (by kernel_rfl); have qd2 : IsRt wq _ (vs 2) := Rel.dep hdp 2 (by kernel_rfl); clear hdp; skip; go_simp; refine (ratPlus wq (HS.out.below hq) qd2 HZ.out.1 HZ.out.2).mono ?_; rintro e w7 h; obtain ⟨v, rfl, hv, hb⟩ := h.is; exact ⟨_, rfl, hv, hb⟩)
        refine Rel.rel_end (fun vs wq hq hall => ?_)
        rw [HF.out]
        have qe0 : vs 0 = _ := Rel.fin hall 0 (by decide)
        have qe1 : vs 1 = _ := Rel.fin hall 1 (by decide)
        have qe2 : IsRt wq _ (vs 2) := Rel.fin hall 2 (by decide)
        have qe3 : IsRt wq _ (vs 3) := Rel.fin hall 3 (by decide)
        clear hall HF uv ue
        obtain ⟨t, C1, m1, l1, C2, m2, l2, ev, hI⟩ := qe3.open
        have K3q := K3.out.belowS hq
        have HN : Hid (ChRel fs n g3 w (.int .i64 ((i : Int) + 1)) (put3 wq g3 (.bool t) (.slice C1 m1 l1) (.slice C2 m2 l2))) := Lib.hid
          ⟨i + 1, t, C1, m1, l1, C2, m2, l2, by simp, hlt, Lib.hid (put3_blk K3q _ _ _), Lib.hid (by rw [HSM.out]; exact hI.put3 K3q _ _ _), HA, Lib.hid (put3_below (Base.Below.nextA HB1.out hq) hlt3 _ _ _)⟩
        have z0 := K3q.frz 0
        have z1 := K3q.frz 1
        have z2 := K3q.frz 2
        have d0 := K3q.at 0 (v := .bool s) rfl
        have d1 := K3q.at 1 (v := .slice A1 k1 c1) rfl
        have d2 := K3q.at 2 (v := .slice A2 k2 c2) rfl
        unfold put3 at HN
        clear K3q hI qe3 qe0 qe1 qe2 hq K3 KF HS HB1 HW HZ HSM HA
        go_wp2
        go_roundw
        case rel => exact HN.out
        case measure => simp [intOf]; omega
      · obtain rfl : i = n := by omega
        have HE := Lib.hid ((chB_sum (fs := fs) h1 h2 HV2.out (all_range.2 hall.out)).trans (cmpQ_zero _ _).symm)
        have HZ : Hid (szR (sumR i (fq fs)) ≤ 200000 ∧ szR (1 : Rat) ≤ 200000) := Lib.hid (by
          have z1 := dgb_sz (dgb_sum (n := i) (m := 2) (f := fq fs) (fun j hj => dgb_vf (HV.out j (by omega))))
          exact ⟨by omega, by
            have : Dg (B32 ^ 1) (1 : Rat) := ⟨by decide, by decide⟩
            have := dgb_sz this
            omega⟩)
        clear hall
        have K3 := Lib.hid K3r.out
        have HS := Lib.hid HIr.out
        have HB1 := Lib.hid HB.out
        have HW1 := Lib.hid (fun W => whole_rt 1 1 (by decide) ⟨rfl, rfl, by decide⟩ W)
        clear K3r HIr HB
        generalize sumR i (fq fs) = s0 at *
        go_upto_region 11 with (fail)
        refine Rel.wp_region_rel 4 (by kernel_rfl) (by kernel_rfl) (fun F hF => ?_)
        simp only [List.take_succ_cons, List.take_zero, List.drop_succ_cons, List.drop_zero, Rel.putL] at hF ⊢
        have HF := Lib.hid hF
        clear hF
        have uv := @Rel.upon_value Tryz.prog
        have ue := @Rel.upon_enter Tryz.prog
        apply Rel.rel_pure
        apply Exists.intro
        refine ⟨fun vs wq hq hdp R hR => ?_, ?_⟩
        · (rw [HF.out, Rel.stepAt_eq]; clear hdp; have x0 := (K3.out.belowS hq).at 0 (v := .bool s) rfl; have x1 := (K3.out.belowS hq).at 1 (v := .slice A1 k1 c1) rfl; have x2 := (K3.out.belowS hq).at 2 (v := .slice A2 k2 c2) rfl; go_simp; exact hR)
        refine Rel.rel_law (S := fun v w' => IsRt w' 1 v) (isRt_mono _) (fun vs wq hq hdp => ?_) ?_
        · (rw [HF.out, Rel.stepAt_eq]; clear hdp; skip; go_simp; exact HW1.out _)
        apply Rel.rel_same
        apply Exists.intro
        refine ⟨fun vs wq hq hdp => ?_, ?_⟩
        · (rw [HF.out, Rel.stepAt_eq]; have qd0 : vs 0 = _ := Rel.dep hdp 0 (by kernel_rfl); have qd1 : IsRt wq _ (vs 1) := Rel.dep hdp 1 (by kernel_rfl); clear hdp; skip; go_simp; refine (ratCompare wq (HS.out.below hq) qd1 HZ.out.1 HZ.out.2).mono ?_; rintro e w7 ⟨rfl, hb⟩; exact ⟨_, rfl, rfl, hb⟩)
        apply Rel.rel_pure
        apply Exists.intro
        refine ⟨fun vs wq hq hdp R hR => ?_, ?_⟩
        · (rw [HF.out, Rel.stepAt_eq]; have qd2 : vs 2 = _ := Rel.dep hdp 2 (by kernel_rfl); clear hdp; skip; go_simp; exact hR)
        refine Rel.rel_end (fun vs wq hq hall => ?_)
        rw [HF.out]
        have qe0 : vs 0 = _ := Rel.fin hall 0 (by decide)
        have qe1 : IsRt wq _ (vs 1) := Rel.fin hall 1 (by decide)
        have qe2 : vs 2 = _ := Rel.fin hall 2 (by decide)
        have qe3 : vs 3 = _ := Rel.fin hall 3 (by decide)
        clear hall HF uv ue
        have HBF := Lib.hid (Base.Below.nextA HB1.out hq)
        clear hq K3 HS HZ HW1
        go_wp2
        go_ret
        exact ⟨ret_bool HE.out.symm, HBF.out⟩
end Go.Proofs.YtionognmgcabbaaGreat.Ratio
/- A list of ratios of a fixed length whose elements are set. -/
namespace Go.Proofs.YtionognmgcabbaaGreat.Ratio
open Go.RowKit Go.Proofs.YtionognmgcabbaaGreat Go.Proofs.YtionognmgcabbaaGreat.Base Go.Proofs.YtionognmgcabbaaGreat.Mem Go.Proofs.YtionognmgcabbaaGreat.NatM Go.Proofs.YtionognmgcabbaaGreat.Nat32 Go.Proofs.YtionognmgcabbaaGreat.RatM Go.Proofs.YtionognmgcabbaaGreat.Blk
open Go.Proofs.YtionognmgcabbaaGreat.Inv (natOf natOf_eq len_pos Rat3 not_slice not_bool frz)
set_option linter.unusedVariables false
/-- three cells from o on are written -/
def put3o (w : World) (b o : Nat) (v0 v1 v2 : Value) : World := ((w.setCell ⟨b, o, none⟩ v0).setCell ⟨b, o + 1, none⟩ v1).setCell ⟨b, o + 2, none⟩ v2
theorem isRt_put3o {w : World} {q : Rat} {v : Value} {b o : Nat} {s : Bool} {A1 A2 : Option Addr} {k1 c1 k2 c2 : Nat} (h : IsRt w q v) {t : TypeId} {cs : Array Value} (K : Blk w b t cs) (x0 : cs[o]? = some (.bool s)) (x1 : cs[o + 1]? = some (.slice A1 k1 c1)) (x2 : cs[o + 2]? = some (.slice A2 k2 c2)) (v0 v1 v2 : Value) : IsRt (put3o w b o v0 v1 v2) q v := by
  obtain ⟨A, c, A', c', e, h1, h2⟩ := h
  have e0 : (put3o w b o v0 v1 v2).heap.size = w.heap.size := by simp [put3o]
  have K0 := K.setTo o v0 rfl
  have K1 := K0.setTo (o + 1) v1 rfl
  have y1 : (cs.setIfInBounds o v0)[o + 1]? = some (.slice A1 k1 c1) := by rw [Array.getElem?_setIfInBounds_ne (by omega)]; exact x1
  have y2 : ((cs.setIfInBounds o v0).setIfInBounds (o + 1) v1)[o + 2]? = some (.slice A2 k2 c2) := by rw [Array.getElem?_setIfInBounds_ne (by omega), Array.getElem?_setIfInBounds_ne (by omega)]; exact x2
  have key : ∀ {A : Option Addr} {xs : List Nat}, RdU w w.heap.size A xs → RdU (put3o w b o v0 v1 v2) (put3o w b o v0 v1 v2).heap.size A xs := fun {A xs} hr => by
    rw [e0]
    exact ((hr.non (K.at o x0) (not_bool _) _).non (K0.at (o + 1) y1) (not_slice _ _ _) _).non (K1.at (o + 2) y2) (not_slice _ _ _) _
  exact ⟨A, c, A', c', e, key h1, key h2⟩
theorem put3o_below {w0 w : World} {b B o : Nat} (h : Below B w0 w) (hb : B ≤ b) (v0 v1 v2 : Value) : Below B w0 (put3o w b o v0 v1 v2) := ((h.setCell (p := ⟨b, o, none⟩) hb v0).setCell (p := ⟨b, o + 1, none⟩) hb v1).setCell (p := ⟨b, o + 2, none⟩) hb v2
end Go.Proofs.YtionognmgcabbaaGreat.Ratio
/- copy of elements of more than one cell. -/
namespace Go.Proofs.YtionognmgcabbaaGreat.CopyR
open Go.RowKit Go.Proofs.YtionognmgcabbaaGreat Go.Proofs.YtionognmgcabbaaGreat.Base
set_option linter.unusedVariables false
end Go.Proofs.YtionognmgcabbaaGreat.CopyR
/- Binomials, of the program and of the reference. -/
namespace Go.Proofs.YtionognmgcabbaaGreat.Choose
open Go.RowKit Go.Proofs.YtionognmgcabbaaGreat Go.Proofs.YtionognmgcabbaaGreat.Base Go.Proofs.YtionognmgcabbaaGreat.Bits
set_option linter.unusedVariables false
def ch : Nat → Nat → Nat
  | _, 0 => 1
  | 0, _ + 1 => 0
  | n + 1, k + 1 => ch n k + ch n (k + 1)
end Go.Proofs.YtionognmgcabbaaGreat.Choose
/- The library's product of two words, where it fits into one. -/
namespace Go.Proofs.YtionognmgcabbaaGreat.MulW
open Go.RowKit Go.Proofs.YtionognmgcabbaaGreat Go.Proofs.YtionognmgcabbaaGreat.Base Go.Proofs.YtionognmgcabbaaGreat.Choose
set_option linter.unusedVariables false
end Go.Proofs.YtionognmgcabbaaGreat.MulW
/- Cells that are the same three over and over: a block that is filled by copies. -/
namespace Go.Proofs.YtionognmgcabbaaGreat.Ratio
open Go.RowKit Go.Proofs.YtionognmgcabbaaGreat Go.Proofs.YtionognmgcabbaaGreat.Base Go.Proofs.YtionognmgcabbaaGreat.Mem Go.Proofs.YtionognmgcabbaaGreat.NatM Go.Proofs.YtionognmgcabbaaGreat.Nat32 Go.Proofs.YtionognmgcabbaaGreat.RatM Go.Proofs.YtionognmgcabbaaGreat.Blk
set_option linter.unusedVariables false
end Go.Proofs.YtionognmgcabbaaGreat.Ratio
/- The program: a list of one ratio over and over. -/
namespace Go.Proofs.YtionognmgcabbaaGreat.Ratio
open Go.RowKit Go.Proofs.YtionognmgcabbaaGreat Go.Proofs.YtionognmgcabbaaGreat.Base Go.Proofs.YtionognmgcabbaaGreat.Mem Go.Proofs.YtionognmgcabbaaGreat.NatM Go.Proofs.YtionognmgcabbaaGreat.Nat32 Go.Proofs.YtionognmgcabbaaGreat.RatM Go.Proofs.YtionognmgcabbaaGreat.Blk
open Go.Proofs.YtionognmgcabbaaGreat.Inv (natOf natOf_eq len_pos Rat3 not_slice not_bool frz)
set_option linter.unusedVariables false
end Go.Proofs.YtionognmgcabbaaGreat.Ratio
/- The number that rows make of a state: both sides. -/
namespace Go.Proofs.YtionognmgcabbaaGreat.RowN
open Go.RowKit Go.Proofs.YtionognmgcabbaaGreat Go.Proofs.YtionognmgcabbaaGreat.Base Go.Proofs.YtionognmgcabbaaGreat.Mem Go.Proofs.YtionognmgcabbaaGreat.Bits
set_option linter.unusedVariables false
end Go.Proofs.YtionognmgcabbaaGreat.RowN
/- Plain: what rows make of a source. -/
namespace Go.Proofs.YtionognmgcabbaaGreat.ExtM
open Go.RowKit Go.Proofs.YtionognmgcabbaaGreat Go.Proofs.YtionognmgcabbaaGreat.Base Go.Proofs.YtionognmgcabbaaGreat.RatM Go.Proofs.YtionognmgcabbaaGreat.GaussM Go.Proofs.YtionognmgcabbaaGreat.ChM Go.Proofs.YtionognmgcabbaaGreat.RowN
set_option linter.unusedVariables false
end Go.Proofs.YtionognmgcabbaaGreat.ExtM
/- The degree of a number as the program counts it. -/
namespace Go.Proofs
open Go.Shelf
end Go.Proofs
namespace Go.Proofs.YtionognmgcabbaaGreat.Deg
open Go.RowKit Go.Proofs.YtionognmgcabbaaGreat Go.Proofs.YtionognmgcabbaaGreat.Base
theorem bitLen_le (p : Nat) (h : p < 9223372036854775808) : Lib.bitLen p ≤ 64 := by
  by_cases h0 : p = 0
  · subst h0; decide
  · have hb := Lib.bitLenAux_bounds 64 p (by omega) (by omega)
    have e0 : Lib.bitLenAux 64 p = Lib.bitLen p := rfl
    rw [e0] at hb
    rcases Nat.lt_or_ge 64 (Lib.bitLen p) with h | h
    · have := Nat.pow_le_pow_right (n := 2) (by decide) (show 64 ≤ Lib.bitLen p - 1 by omega)
      have e : (2 : Nat) ^ 64 = 18446744073709551616 := by decide
      omega
    · exact h
end Go.Proofs.YtionognmgcabbaaGreat.Deg
/- The program: the bits of a source. -/
namespace Go.Proofs.YtionognmgcabbaaGreat.Ratio
open Go.RowKit Go.Proofs.YtionognmgcabbaaGreat Go.Proofs.YtionognmgcabbaaGreat.Base Go.Proofs.YtionognmgcabbaaGreat.Mem Go.Proofs.YtionognmgcabbaaGreat.NatM Go.Proofs.YtionognmgcabbaaGreat.Nat32 Go.Proofs.YtionognmgcabbaaGreat.RatM Go.Proofs.YtionognmgcabbaaGreat.Blk Go.Proofs.YtionognmgcabbaaGreat.MemF Go.Proofs.YtionognmgcabbaaGreat.ChM Go.Proofs.YtionognmgcabbaaGreat.ValF Go.Proofs.YtionognmgcabbaaGreat.GaussM Go.Proofs.YtionognmgcabbaaGreat.Deg
set_option linter.unusedVariables false
theorem chB_range {fs : List Int} {n : Nat} (h : chB fs n = true) : 1 ≤ n ∧ n ≤ 16 := by
  simp only [chB, Bool.and_eq_true, decide_eq_true_eq] at h
  exact ⟨h.1, h.2.1⟩
end Go.Proofs.YtionognmgcabbaaGreat.Ratio
/- Plain: what is known where rows are some for a source. -/
namespace Go.Proofs.YtionognmgcabbaaGreat.ExtM
open Go.RowKit Go.Proofs.YtionognmgcabbaaGreat Go.Proofs.YtionognmgcabbaaGreat.Base Go.Proofs.YtionognmgcabbaaGreat.RatM Go.Proofs.YtionognmgcabbaaGreat.GaussM Go.Proofs.YtionognmgcabbaaGreat.ChM Go.Proofs.YtionognmgcabbaaGreat.RowN Go.Proofs.YtionognmgcabbaaGreat.Ratio Go.Proofs.YtionognmgcabbaaGreat.GiveM
set_option linter.unusedVariables false
theorem chB_all {fs : List Int} {n : Nat} (h : chB fs n = true) : AllVF fs n := by
  unfold chB at h
  simp only [Bool.and_eq_true] at h
  exact vfAll_true.1 h.2.2.1
end Go.Proofs.YtionognmgcabbaaGreat.ExtM
/- The program: what rows make of a source. -/
namespace Go.Proofs.YtionognmgcabbaaGreat.Ratio
open Go.RowKit Go.Proofs.YtionognmgcabbaaGreat Go.Proofs.YtionognmgcabbaaGreat.Base Go.Proofs.YtionognmgcabbaaGreat.Mem Go.Proofs.YtionognmgcabbaaGreat.NatM Go.Proofs.YtionognmgcabbaaGreat.Nat32 Go.Proofs.YtionognmgcabbaaGreat.RatM Go.Proofs.YtionognmgcabbaaGreat.Blk Go.Proofs.YtionognmgcabbaaGreat.MemF Go.Proofs.YtionognmgcabbaaGreat.ChM Go.Proofs.YtionognmgcabbaaGreat.GaussM Go.Proofs.YtionognmgcabbaaGreat.ExtM Go.Proofs.YtionognmgcabbaaGreat.RowN
open Go.Proofs.YtionognmgcabbaaGreat.Inv (natOf natOf_eq len_pos Rat3 not_slice not_bool frz)
set_option linter.unusedVariables false
end Go.Proofs.YtionognmgcabbaaGreat.Ratio
/- The program's ratios: the absolute value. -/
namespace Go.Proofs.YtionognmgcabbaaGreat.Ratio
open Go.RowKit Go.Proofs.YtionognmgcabbaaGreat Go.Proofs.YtionognmgcabbaaGreat.Base Go.Proofs.YtionognmgcabbaaGreat.Mem Go.Proofs.YtionognmgcabbaaGreat.NatM Go.Proofs.YtionognmgcabbaaGreat.Nat32 Go.Proofs.YtionognmgcabbaaGreat.RatM
open Go.Proofs.YtionognmgcabbaaGreat.Inv (natOf natOf_eq len_pos Rat3 not_slice not_bool frz)
set_option linter.unusedVariables false
end Go.Proofs.YtionognmgcabbaaGreat.Ratio
/- Plain mathematics: rationals over a common denominator, and how great they are. No program in sight. -/
set_option linter.unusedVariables false
namespace Go.Proofs.YtionognmgcabbaaGreat.RatM
end Go.Proofs.YtionognmgcabbaaGreat.RatM
/- Plain: the distance of chances; sizes over a common denominator. -/
namespace Go.Proofs.YtionognmgcabbaaGreat.Ratio
open Go.RowKit Go.Proofs.YtionognmgcabbaaGreat Go.Proofs.YtionognmgcabbaaGreat.Base Go.Proofs.YtionognmgcabbaaGreat.Mem Go.Proofs.YtionognmgcabbaaGreat.NatM Go.Proofs.YtionognmgcabbaaGreat.Nat32 Go.Proofs.YtionognmgcabbaaGreat.RatM Go.Proofs.YtionognmgcabbaaGreat.GaussM Go.Proofs.YtionognmgcabbaaGreat.ChM
set_option linter.unusedVariables false
end Go.Proofs.YtionognmgcabbaaGreat.Ratio
/- Plain: steps of a walk, and how great their numbers are. -/
namespace Go.Proofs.YtionognmgcabbaaGreat.Ratio
open Go.RowKit Go.Proofs.YtionognmgcabbaaGreat Go.Proofs.YtionognmgcabbaaGreat.Base Go.Proofs.YtionognmgcabbaaGreat.Mem Go.Proofs.YtionognmgcabbaaGreat.NatM Go.Proofs.YtionognmgcabbaaGreat.Nat32 Go.Proofs.YtionognmgcabbaaGreat.RatM Go.Proofs.YtionognmgcabbaaGreat.GaussM Go.Proofs.YtionognmgcabbaaGreat.ChM
set_option linter.unusedVariables false
end Go.Proofs.YtionognmgcabbaaGreat.Ratio
/- The program: a step of a walk. -/
namespace Go.Proofs.YtionognmgcabbaaGreat.Ratio
open Go.RowKit Go.Proofs.YtionognmgcabbaaGreat Go.Proofs.YtionognmgcabbaaGreat.Base Go.Proofs.YtionognmgcabbaaGreat.Mem Go.Proofs.YtionognmgcabbaaGreat.NatM Go.Proofs.YtionognmgcabbaaGreat.Nat32 Go.Proofs.YtionognmgcabbaaGreat.RatM Go.Proofs.YtionognmgcabbaaGreat.Blk Go.Proofs.YtionognmgcabbaaGreat.MemF Go.Proofs.YtionognmgcabbaaGreat.ChM Go.Proofs.YtionognmgcabbaaGreat.GaussM
open Go.Proofs.YtionognmgcabbaaGreat.Inv (natOf natOf_eq len_pos Rat3 not_slice not_bool frz)
set_option linter.unusedVariables false
/-- the partial sums of a step -/
def part (M : Nat → Nat → Rat) (p : Nat → Rat) (i k : Nat) : Rat := sumR i (fun j => p j * M j k)
/-- within round i, behind the first k places -/
def mid (M : Nat → Nat → Rat) (p : Nat → Rat) (i k : Nat) : Nat → Rat := fun y => if y < k then part M p (i + 1) y else part M p i y
theorem blk_put3o {w : World} {b b' o : Nat} {t : TypeId} {cs : Array Value} (K : Blk w b' t cs) (hne : b ≠ b') (v0 v1 v2 : Value) : Blk (put3o w b o v0 v1 v2) b' t cs := ((K.other v0 hne).other v1 hne).other v2 hne
end Go.Proofs.YtionognmgcabbaaGreat.Ratio

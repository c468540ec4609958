/- Plain mathematics: from which places a place can be reached. -/
import Derived.Test.YtionognmgcabbaaGreatMgHit10
import Derived.Test.YtionognmgcabbaaGreatMgHit09
import Derived.Test.YtionognmgcabbaaGreatMgHit07
import Derived.Test.YtionognmgcabbaaGreatMgHit08
namespace Go.Proofs.YtionognmgcabbaaGreat.Ratio
open Go.RowKit Go.Proofs.YtionognmgcabbaaGreat Go.Proofs.YtionognmgcabbaaGreat.Base Go.Proofs.YtionognmgcabbaaGreat.Mem Go.Proofs.YtionognmgcabbaaGreat.NatM Go.Proofs.YtionognmgcabbaaGreat.Nat32 Go.Proofs.YtionognmgcabbaaGreat.RatM Go.Proofs.YtionognmgcabbaaGreat.GaussM Go.Proofs.YtionognmgcabbaaGreat.ChM
set_option linter.unusedVariables false
/-- place p can be reached from place i, by places below n -/
inductive Rch (n : Nat) (W : Nat → Nat → Rat) (p : Nat) : Nat → Prop
  | base : Rch n W p p
  | step {i k : Nat} : i < n → k < n → W i k ≠ 0 → Rch n W p k → Rch n W p i
/-- it can be reached from each place -/
noncomputable def rchB (n : Nat) (W : Nat → Nat → Rat) (p : Nat) : Bool := @decide (∀ i, i < n → Rch n W p i) (Classical.propDecidable _)
theorem rchB_true {n p : Nat} {W : Nat → Nat → Rat} (h : ∀ i, i < n → Rch n W p i) : rchB n W p = true := by
  unfold rchB
  exact @decide_eq_true _ (Classical.propDecidable _) h
/-- a set that holds p, and with a place all places that lead to it, holds all from which p can be reached -/
theorem Rch.closed {n p : Nat} {W : Nat → Nat → Rat} {D : Nat → Prop} (hp : D p) (hc : ∀ i k, i < n → k < n → W i k ≠ 0 → D k → D i) : ∀ {i : Nat}, Rch n W p i → D i := by
  intro i h
  induction h with
  | base => exact hp
  | step hi hk hw _ ih => exact hc _ _ hi hk hw ih
/-- how many of the first n are so -/
def cntD (D : Nat → Bool) : Nat → Nat
  | 0 => 0
  | n + 1 => cntD D n + if D n then 1 else 0
theorem cntD_le (D : Nat → Bool) : ∀ n, cntD D n ≤ n
  | 0 => Nat.le_refl _
  | n + 1 => by
    have := cntD_le D n
    unfold cntD
    split <;> omega
def setD (D : Nat → Bool) (i : Nat) : Nat → Bool := fun j => if j = i then true else D j
theorem cntD_set {D : Nat → Bool} {i : Nat} (h : D i = false) : ∀ {n : Nat}, i < n → cntD (setD D i) n = cntD D n + 1
  | 0, hi => absurd hi (Nat.not_lt_zero _)
  | n + 1, hi => by
    have same : ∀ m, m ≤ i → cntD (setD D i) m = cntD D m := fun m => by
      induction m with
      | zero => intro _; rfl
      | succ m ih =>
        intro hm
        unfold cntD
        rw [ih (by omega), show setD D i m = D m by unfold setD; rw [if_neg (by omega)]]
    unfold cntD
    by_cases e : i = n
    · subst e
      rw [same i (Nat.le_refl _), show setD D i i = true by unfold setD; rw [if_pos rfl], h]
      simp
    · rw [cntD_set h (show i < n by omega), show setD D i n = D n by unfold setD; rw [if_neg (fun e2 => e e2.symm)]]
      omega
/-- what is known within a pass: all marked places are right; none was marked since the pass began, and then the first ones are closed, or there are more than at its beginning -/
structure PassI (n : Nat) (W : Nat → Nat → Rat) (p c0 i k : Nat) (D : Nat → Bool) (ch : Bool) : Prop where
  atp : D p = true
  right : ∀ j, j < n → D j = true → Rch n W p j
  no : ch = false → cntD D n = c0 ∧ ∀ a b, a < n → b < n → (a < i ∨ a = i ∧ b < k) → W a b ≠ 0 → D b = true → D a = true
  yes : ch = true → c0 < cntD D n
theorem PassI.start {n p : Nat} {W : Nat → Nat → Rat} {D : Nat → Bool} (h1 : D p = true) (h2 : ∀ j, j < n → D j = true → Rch n W p j) : PassI n W p (cntD D n) 0 0 D false :=
  ⟨h1, h2, fun _ => ⟨rfl, fun a b _ _ h => by omega⟩, fun h => by cases h⟩
theorem PassI.skip {n p c0 i k : Nat} {W : Nat → Nat → Rat} {D : Nat → Bool} {ch : Bool} (h : PassI n W p c0 i k D ch) (hs : W i k ≠ 0 → D k = true → D i = true) : PassI n W p c0 i (k + 1) D ch :=
  ⟨h.atp, h.right, fun hc => ⟨(h.no hc).1, fun a b ha hb hab hw hd => by
    by_cases e : a = i ∧ b = k
    · obtain ⟨rfl, rfl⟩ := e; exact hs hw hd
    · exact (h.no hc).2 a b ha hb (by omega) hw hd⟩, h.yes⟩
theorem PassI.mark {n p c0 i k : Nat} {W : Nat → Nat → Rat} {D : Nat → Bool} {ch : Bool} (h : PassI n W p c0 i k D ch) (hi : i < n) (hk : k < n) (hw : W i k ≠ 0) (h1 : D i = false) (h2 : D k = true) : PassI n W p c0 i (k + 1) (setD D i) true := by
  have hcs := cntD_set h1 hi
  refine ⟨?_, fun j hj hd => ?_, fun hc => (by cases hc), fun _ => ?_⟩
  · unfold setD
    split
    · rfl
    · exact h.atp
  · unfold setD at hd
    split at hd
    · rename_i e
      subst e
      exact .step hi hk hw (h.right k hk h2)
    · exact h.right j hj hd
  · rw [hcs]
    cases ch with
    | false => rw [(h.no rfl).1]; omega
    | true => have := h.yes rfl; omega
theorem PassI.row {n p c0 i k : Nat} {W : Nat → Nat → Rat} {D : Nat → Bool} {ch : Bool} (h : PassI n W p c0 i k D ch) (hk : n ≤ k) : PassI n W p c0 (i + 1) 0 D ch :=
  ⟨h.atp, h.right, fun hc => ⟨(h.no hc).1, fun a b ha hb hab hw hd => (h.no hc).2 a b ha hb (by omega) hw hd⟩, h.yes⟩
/-- all are marked exactly if p can be reached from all -/
theorem PassI.fin {n p c0 i : Nat} {W : Nat → Nat → Rat} {D : Nat → Bool} (h : PassI n W p c0 i 0 D false) (hi : n ≤ i) (hp : p < n) : (∀ j, j < n → D j = true) ↔ ∀ j, j < n → Rch n W p j := by
  constructor
  · intro ha j hj; exact h.right j hj (ha j hj)
  · intro ha j hj
    exact Rch.closed (D := fun j => D j = true) h.atp (fun a b ha hb hw hd => (h.no rfl).2 a b ha hb (by omega) hw hd) (ha j hj)
/-- the reference's list of places -/
structure SetI (n : Nat) (W : Nat → Nat → Rat) (p i k : Nat) (S : List Nat) : Prop where
  atp : p ∈ S
  nodup : S.Nodup
  right : ∀ j, j ∈ S → j < n ∧ Rch n W p j
  closed : ∀ a b, a < i → a < S.length → b < n → W b (S.getD a 0) ≠ 0 → b ∈ S
  row : i < S.length → ∀ b, b < k → W b (S.getD i 0) ≠ 0 → b ∈ S
theorem SetI.start {n p : Nat} {W : Nat → Nat → Rat} (hp : p < n) : SetI n W p 0 0 [p] :=
  ⟨by simp, by simp, fun j hj => by simp at hj; subst hj; exact ⟨hp, .base⟩, fun a b h => absurd h (Nat.not_lt_zero _), fun _ b h => absurd h (Nat.not_lt_zero _)⟩
theorem nodup_len : ∀ {n : Nat} {S : List Nat}, S.Nodup → (∀ j, j ∈ S → j < n) → S.length ≤ n := by
  intro n S hn h
  have hsub : S ⊆ List.range n := fun j hj => List.mem_range.2 (h j hj)
  have := hn.length_le_of_subset hsub
  simpa using this
theorem SetI.len {n p i k : Nat} {W : Nat → Nat → Rat} {S : List Nat} (h : SetI n W p i k S) : S.length ≤ n := nodup_len h.nodup (fun j hj => (h.right j hj).1)
theorem SetI.skip {n p i k : Nat} {W : Nat → Nat → Rat} {S : List Nat} (h : SetI n W p i k S) (hs : W k (S.getD i 0) ≠ 0 → k ∈ S) : SetI n W p i (k + 1) S :=
  ⟨h.atp, h.nodup, h.right, h.closed, fun hi b hb hw => by
    by_cases e : b = k
    · subst e; exact hs hw
    · exact h.row hi b (by omega) hw⟩
theorem SetI.add {n p i k : Nat} {W : Nat → Nat → Rat} {S : List Nat} (h : SetI n W p i k S) (hi : i < S.length) (hk : k < n) (hw : W k (S.getD i 0) ≠ 0) (hn : k ∉ S) : SetI n W p i (k + 1) (S ++ [k]) := by
  have hg : ∀ a, a < S.length → (S ++ [k]).getD a 0 = S.getD a 0 := fun a ha => by
    rw [List.getD_eq_getElem?_getD, List.getElem?_append_left ha, ← List.getD_eq_getElem?_getD]
  have hm : S.getD i 0 ∈ S := by
    rw [List.getD_eq_getElem?_getD, List.getElem?_eq_getElem hi]
    exact List.getElem_mem hi
  refine ⟨by simp [h.atp], ?_, fun j hj => ?_, fun a b ha hl hb hw' => ?_, fun _ b hb hw' => ?_⟩
  · rw [List.nodup_append]
    refine ⟨h.nodup, by simp, fun a ha b hb => ?_⟩
    simp at hb
    subst hb
    exact fun e => hn (e ▸ ha)
  · rcases List.mem_append.1 hj with hj | hj
    · exact h.right j hj
    · simp at hj
      subst hj
      exact ⟨hk, .step hk (h.right _ hm).1 hw (h.right _ hm).2⟩
  · rw [hg a (by omega)] at hw'
    exact List.mem_append_left _ (h.closed a b ha (by omega) hb hw')
  · rw [hg i hi] at hw'
    by_cases e : b = k
    · subst e; simp
    · exact List.mem_append_left _ (h.row hi b (by omega) hw')
theorem SetI.next {n p i k : Nat} {W : Nat → Nat → Rat} {S : List Nat} (h : SetI n W p i k S) (hk : n ≤ k) : SetI n W p (i + 1) 0 S :=
  ⟨h.atp, h.nodup, h.right, fun a b ha hl hb hw => by
    by_cases e : a = i
    · subst e; exact h.row hl b (by omega) hw
    · exact h.closed a b (by omega) hl hb hw, fun _ b hb => absurd hb (Nat.not_lt_zero _)⟩
theorem SetI.fin {n p i : Nat} {W : Nat → Nat → Rat} {S : List Nat} (h : SetI n W p i 0 S) (hi : S.length ≤ i) : S.length = n ↔ ∀ j, j < n → Rch n W p j := by
  constructor
  · intro hl j hj
    refine Classical.byContradiction fun hno => ?_
    have hjS : j ∉ S := fun hm => hno (h.right j hm).2
    have : (j :: S).length ≤ n := nodup_len (List.nodup_cons.2 ⟨hjS, h.nodup⟩) (fun a ha => by
      rcases List.mem_cons.1 ha with rfl | ha
      · exact hj
      · exact (h.right a ha).1)
    simp at this
    omega
  · intro ha
    have hall : ∀ j, j < n → j ∈ S := fun j hj => Rch.closed (D := fun j => j ∈ S) h.atp (fun a b ha hb hw hd => by
      obtain ⟨c, hc, e⟩ := List.getElem_of_mem hd
      exact h.closed c a (by omega) hc ha (by rw [List.getD_eq_getElem?_getD, List.getElem?_eq_getElem hc]; simpa [e] using hw)) (ha j hj)
    have h1 := h.len
    have h2 : (List.range n).length ≤ S.length := List.Nodup.length_le_of_subset List.nodup_range (fun j hj => hall j (List.mem_range.1 hj))
    simp at h2
    omega
end Go.Proofs.YtionognmgcabbaaGreat.Ratio
/- Plain mathematics: the equations of the hitting times, in both forms, and what both sides tell. -/
namespace Go.Proofs.YtionognmgcabbaaGreat.Ratio
open Go.RowKit Go.Proofs.YtionognmgcabbaaGreat Go.Proofs.YtionognmgcabbaaGreat.Base Go.Proofs.YtionognmgcabbaaGreat.Mem Go.Proofs.YtionognmgcabbaaGreat.NatM Go.Proofs.YtionognmgcabbaaGreat.Nat32 Go.Proofs.YtionognmgcabbaaGreat.RatM Go.Proofs.YtionognmgcabbaaGreat.GaussM Go.Proofs.YtionognmgcabbaaGreat.ChM Go.Proofs.YtionognmgcabbaaGreat.WalkM Go.Proofs.YtionognmgcabbaaGreat.GiveM
set_option linter.unusedVariables false
/-- the right side of each equation -/
def htB (p r : Nat) : Rat := if r = p then 0 else 1
/-- the program's equations -/
def hqI (W : Nat → Nat → Rat) (p r c : Nat) : Rat := if r = p then 0 else W r c
def htI (n : Nat) (W : Nat → Nat → Rat) (p : Nat) : Nat → Nat → Rat := fun r c => if c < n then (if r = c then -(hqI W p r c) + 1 else -(hqI W p r c)) else htB p r
/-- the reference's -/
def hqS (W : Nat → Nat → Rat) (p r c : Nat) : Rat := if r ≠ p ∧ c ≠ p then -(W r c) else 0
def htS (n : Nat) (W : Nat → Nat → Rat) (p : Nat) : Nat → Nat → Rat := fun r c => if c < n then (if r = c then hqS W p r c + 1 else hqS W p r c) else htB p r
theorem ht_end (n : Nat) (W : Nat → Nat → Rat) (p r : Nat) : htI n W p r n = htB p r ∧ htS n W p r n = htB p r := by
  unfold htI htS
  exact ⟨if_neg (Nat.lt_irrefl n), if_neg (Nat.lt_irrefl n)⟩
theorem ht_row {n p : Nat} {W : Nat → Nat → Rat} (hp : p < n) (y : Nat → Rat) : sumR n (fun j => htI n W p p j * y j) = y p ∧ sumR n (fun j => htS n W p p j * y j) = y p := by
  constructor
  · rw [sumR_one (k := p) hp]
    · unfold htI hqI
      rw [if_pos hp, if_pos rfl, if_pos rfl]; grind
    · intro j hj hne
      unfold htI hqI
      rw [if_pos hj, if_neg (fun e => hne e.symm), if_pos rfl]; grind
  · rw [sumR_one (k := p) hp]
    · unfold htS hqS
      rw [if_pos hp, if_pos rfl, if_neg (fun h => h.1 rfl)]; grind
    · intro j hj hne
      unfold htS hqS
      rw [if_pos hj, if_neg (fun e => hne e.symm), if_neg (fun h => h.1 rfl)]; grind
theorem ht_cell {n p : Nat} {W : Nat → Nat → Rat} {y : Nat → Rat} (h0 : y p = 0) {r c : Nat} (hr : r ≠ p) (hc : c < n) : htI n W p r c * y c = htS n W p r c * y c := by
  by_cases e : c = p
  · subst e
    rw [h0, Rat.mul_zero, Rat.mul_zero]
  · unfold htI htS hqI hqS
    rw [if_neg hr, if_pos (⟨hr, e⟩ : r ≠ p ∧ c ≠ p)]
/-- both forms have the same solutions -/
theorem ht_same {n p : Nat} {W : Nat → Nat → Rat} (hp : p < n) (y : Nat → Rat) : Sol (htI n W p) n n y ↔ Sol (htS n W p) n n y := by
  obtain ⟨q1, q2⟩ := ht_row (W := W) hp y
  have eb : htB p p = 0 := by unfold htB; rw [if_pos rfl]
  constructor
  · intro h r hr
    have h0 : y p = 0 := by have := h p hp; rw [q1, (ht_end n W p p).1, eb] at this; exact this
    by_cases e : r = p
    · subst e
      rw [q2, (ht_end n W r r).2, eb, h0]
    · rw [(ht_end n W p r).2, ← (ht_end n W p r).1, ← h r hr]
      exact sumR_congr fun c hc => (ht_cell h0 e hc).symm
  · intro h r hr
    have h0 : y p = 0 := by have := h p hp; rw [q2, (ht_end n W p p).2, eb] at this; exact this
    by_cases e : r = p
    · subst e
      rw [q1, (ht_end n W r r).1, eb, h0]
    · rw [(ht_end n W p r).1, ← (ht_end n W p r).2, ← h r hr]
      exact sumR_congr fun c hc => ht_cell h0 e hc
theorem hqI_dg {n p : Nat} {W : Nat → Nat → Rat} (h : ∀ i k, i < n → k < n → Dg (B32 ^ 2) (W i k)) {r c : Nat} (hr : r < n) (hc : c < n) : Dg (B32 ^ 2) (-(hqI W p r c)) := by
  unfold hqI
  split
  · exact (dgb_zero (by decide)).neg
  · exact (h r c hr hc).neg
theorem hqS_dg {n p : Nat} {W : Nat → Nat → Rat} (h : ∀ i k, i < n → k < n → Dg (B32 ^ 2) (W i k)) {r c : Nat} (hr : r < n) (hc : c < n) : Dg (B32 ^ 2) (hqS W p r c) := by
  unfold hqS
  split
  · exact (h r c hr hc).neg
  · exact dgb_zero (by decide)
theorem htB_dg (p r : Nat) : Dg (B32 ^ 4) (htB p r) := by
  unfold htB
  split
  · exact dgb_zero (by decide)
  · exact dg_one (by decide)
theorem htI_dg {n p : Nat} {W : Nat → Nat → Rat} (h : ∀ i k, i < n → k < n → Dg (B32 ^ 2) (W i k)) (r c : Nat) (hr : r < n) (hc : c ≤ n) : Dg (B32 ^ 4) (htI n W p r c) := by
  unfold htI
  split
  · split
    · exact dgb_add (m := 2) (k := 1) (hqI_dg h hr ‹_›) (dg_one (Nat.le_refl _))
    · exact dgb_more (hqI_dg h hr ‹_›) (by decide)
  · exact htB_dg p r
theorem htS_dg {n p : Nat} {W : Nat → Nat → Rat} (h : ∀ i k, i < n → k < n → Dg (B32 ^ 2) (W i k)) (r c : Nat) (hr : r < n) (hc : c ≤ n) : Dg (B32 ^ 4) (htS n W p r c) := by
  unfold htS
  split
  · split
    · exact dgb_add (m := 2) (k := 1) (hqS_dg h hr ‹_›) (dg_one (Nat.le_refl _))
    · exact dgb_more (hqS_dg h hr ‹_›) (by decide)
  · exact htB_dg p r
/-- is the place one of the walk's -/
def htP (n : Nat) (t : Int) : Bool := inR t 0 ((n : Int) - 1)
theorem htP_true {n : Nat} {t : Int} (h : htP n t = true) : ∃ p : Nat, t = (p : Int) ∧ p < n := by
  unfold htP inR at h
  simp only [Bool.and_eq_true, decide_eq_true_eq] at h
  exact ⟨t.toNat, by omega, by omega⟩
/-- the hitting times -/
noncomputable def htX (n : Nat) (fs : Nat → List Int) (t : Int) : Nat → Rat := solX (htS n (wQ fs) t.toNat) n n
noncomputable def htV (n : Nat) (L : Nat → Nat) (fs : Nat → List Int) (t : Int) : Bool := wkB n L fs && htP n t && rchB n (wQ fs) t.toNat && solB (htS n (wQ fs) t.toNat) n n
noncomputable def htN (n : Nat) (L : Nat → Nat) (fs : Nat → List Int) (t : Int) : Nat := if htV n L fs t then gN (htX n fs t) n else 0
noncomputable def htR (n : Nat) (L : Nat → Nat) (fs : Nat → List Int) (t : Int) : List Int := if htV n L fs t then gR (htX n fs t) n else []
noncomputable def htO (n : Nat) (L : Nat → Nat) (fs : Nat → List Int) (t : Int) : Bool := if htV n L fs t then smallAll (htX n fs t) n else false
theorem ht_no {n : Nat} {L : Nat → Nat} {fs : Nat → List Int} {t : Int} (h : htV n L fs t = false) : htN n L fs t = 0 ∧ htR n L fs t = [] ∧ htO n L fs t = false := by
  unfold htN htR htO
  simp [h]
theorem ht_yes {n : Nat} {L : Nat → Nat} {fs : Nat → List Int} {t : Int} (h : htV n L fs t = true) : htN n L fs t = gN (htX n fs t) n ∧ htR n L fs t = gR (htX n fs t) n ∧ htO n L fs t = smallAll (htX n fs t) n := by
  unfold htN htR htO
  simp [h]
theorem htN_le (n : Nat) (L : Nat → Nat) (fs : Nat → List Int) (t : Int) : htN n L fs t ≤ 6 := by
  unfold htN
  split
  · rename_i h
    unfold htV at h
    simp only [Bool.and_eq_true] at h
    obtain ⟨_, h6, _⟩ := wkB_true h.1.1.1
    exact Nat.le_trans (gN_le _ _) h6
  · exact Nat.zero_le _
/-- the chances of a valid walk are not below nought -/
theorem wk_pos {n : Nat} {L : Nat → Nat} {fs : Nat → List Int} (h : wkB n L fs = true) : ∀ i, i < n → posAll (fs i) n = true := by
  obtain ⟨h1, h6, hr⟩ := wkB_true h
  exact fun i hi => (chB_all (hr i hi).2).2.1
end Go.Proofs.YtionognmgcabbaaGreat.Ratio
/- The program: whether a place can be reached from each place. -/
namespace Go.Proofs.YtionognmgcabbaaGreat.Ratio
open Go.RowKit Go.Proofs.YtionognmgcabbaaGreat Go.Proofs.YtionognmgcabbaaGreat.Base Go.Proofs.YtionognmgcabbaaGreat.Mem Go.Proofs.YtionognmgcabbaaGreat.NatM Go.Proofs.YtionognmgcabbaaGreat.Nat32 Go.Proofs.YtionognmgcabbaaGreat.RatM Go.Proofs.YtionognmgcabbaaGreat.Blk Go.Proofs.YtionognmgcabbaaGreat.MemF Go.Proofs.YtionognmgcabbaaGreat.ChM Go.Proofs.YtionognmgcabbaaGreat.GaussM Go.Proofs.YtionognmgcabbaaGreat.WalkM Go.Proofs.YtionognmgcabbaaGreat.GiveM
open Go.Proofs.YtionognmgcabbaaGreat.Inv (natOf natOf_eq len_pos Rat3 not_slice not_bool frz)
set_option linter.unusedVariables false
/-- the block g holds n marks -/
def DoneB (w : World) (g n : Nat) (D : Nat → Bool) : Prop := ∃ cs, Blk w g 4 cs ∧ cs.size = n ∧ ∀ j, j < n → cs[j]? = some (.bool (D j))
theorem DoneB.below {w w' : World} {g n : Nat} {D : Nat → Bool} (h : DoneB w g n D) (hb : Below w.heap.size w w') : DoneB w' g n D := by
  obtain ⟨cs, K, hz, hc⟩ := h
  exact ⟨cs, K.belowS hb, hz, hc⟩
theorem DoneB.at {w : World} {g n j : Nat} {D : Nat → Bool} (h : DoneB w g n D) (hj : j < n) : w.cell? ⟨g, j, none⟩ = some (.bool (D j)) := by
  obtain ⟨cs, K, hz, hc⟩ := h
  exact K.at j (hc j hj)
theorem DoneB.frz {w : World} {g n : Nat} {D : Nat → Bool} (h : DoneB w g n D) (j : Nat) : w.frozen? ⟨g, j, none⟩ = false := by
  obtain ⟨cs, K, _⟩ := h
  exact K.frz j
theorem DoneB.lt {w : World} {g n : Nat} {D : Nat → Bool} (h : DoneB w g n D) : g < w.heap.size := by
  obtain ⟨cs, K, _⟩ := h
  exact K.lt
theorem DoneB.set {w : World} {g n i : Nat} {D : Nat → Bool} (h : DoneB w g n D) (hi : i < n) : DoneB (w.setCell ⟨g, i, none⟩ (.bool true)) g n (setD D i) := by
  obtain ⟨cs, K, hz, hc⟩ := h
  refine ⟨cs.setIfInBounds i (.bool true), K.setTo i _ rfl, by simp [hz], fun j hj => ?_⟩
  unfold setD
  by_cases e : j = i
  · subst e
    rw [if_pos rfl]
    exact Array.getElem?_setIfInBounds_self_of_lt (by omega)
  · rw [if_neg e, Array.getElem?_setIfInBounds_ne (fun e2 => e e2.symm)]
    exact hc j hj
theorem DoneB.made (w : World) (n : Nat) : DoneB (w.alloc (.cells (madeCells #[.bool false] n) 4)) w.heap.size n (fun _ => false) := by
  refine ⟨_, Blk.new w _ _, by simp [size_madeCells], fun j hj => ?_⟩
  rw [← Array.getElem?_toList, toList_madeCells_one]
  simp [hj]
theorem DoneB.one (w : World) {n p : Nat} (hp : p < n) : DoneB (w.alloc (.cells ((madeCells #[.bool false] n).setIfInBounds p (.bool true)) 4)) w.heap.size n (setD (fun _ => false) p) := by
  refine ⟨_, Blk.new w _ _, by simp [size_madeCells], fun j hj => ?_⟩
  unfold setD
  by_cases e : j = p
  · subst e
    rw [if_pos rfl]
    exact Array.getElem?_setIfInBounds_self_of_lt (by simp [size_madeCells]; omega)
  · rw [if_neg e, Array.getElem?_setIfInBounds_ne (fun e2 => e e2.symm), ← Array.getElem?_toList, toList_madeCells_one]
    simp [hj]
/-- the marks, read from memory -/
def readD (w : World) (g : Nat) (j : Nat) : Bool := match w.cell? ⟨g, j, none⟩ with
  | some (.bool b) => b
  | _ => false
theorem cntD_congr {D D' : Nat → Bool} : ∀ {n : Nat}, (∀ j, j < n → D j = D' j) → cntD D n = cntD D' n
  | 0, _ => rfl
  | n + 1, h => by unfold cntD; rw [cntD_congr (fun j hj => h j (by omega)), h n (by omega)]
theorem DoneB.cnt {w : World} {g n : Nat} {D : Nat → Bool} (h : DoneB w g n D) : cntD (readD w g) n = cntD D n := cntD_congr fun j hj => by
  unfold readD
  rw [h.at hj]
def allT (D : Nat → Bool) (n : Nat) : Bool := (List.range n).all D
theorem allT_true {D : Nat → Bool} {n : Nat} : allT D n = true ↔ ∀ j, j < n → D j = true := by
  unfold allT
  simp
def IdxRet (r : Bool) (w : World) (e : Ending) (w' : World) : Prop := (∃ z : Int, e = .returned (.int .i64 z) ∧ decide (0 ≤ z) = r ∧ -1 ≤ z) ∧ w = w'
theorem infoB : (Tryz.prog.info? 4).map (fun i => (i.zero, i.size, i.bytes)) = some (some (.bool false), 1, 1) := by kernel_rfl
set_option maxHeartbeats 1000000 in
theorem indexB_any {g n c : Nat} {D : Nat → Bool} (w : World) (h : DoneB w g n D) (hn : n ≤ 1000) : Calls Tryz.prog 180 #[.slice (some ⟨g, 0, none⟩) n c, .bool false] w (IdxRet (!allT D n) w) := by
  have HD := Lib.hid h
  clear h
  go_enter Tryz.func180, Tryz.ntmps180
  go_wp2
  go_loop [8] (fun iv => ∃ i : Nat, iv = .int .i64 (i : Int) ∧ i ≤ n ∧ Hid (∀ j, j < i → D j = true)) (fun iv => n - (intOf iv).toNat)
  case atStart => exact ⟨0, rfl, Nat.zero_le _, Lib.hid (fun j hj => absurd hj (Nat.not_lt_zero _))⟩
  case round =>
    obtain ⟨i, rfl, hi, HT⟩ := hrel
    by_cases hlt : i < n
    · have x0 := HD.out.at hlt
      cases hd : D i with
      | true =>
        rw [hd] at x0
        have HN : Hid (∀ j, j < i + 1 → D j = true) := Lib.hid (fun j hj => if e : j = i then by rw [e]; exact hd else HT.out j (by omega))
        clear hd
        go_wp2
        go_round
        case rel => exact ⟨i + 1, by simp, hlt, HN⟩
        case measure => simp [intOf]; omega
      | false =>
        rw [hd] at x0
        have hf : allT D n = false := by
          cases h : allT D n with
          | false => rfl
          | true => rw [allT_true.1 h i hlt] at hd; cases hd
        clear hd
        go_wp2
        go_ret
        exact ⟨⟨(i : Int), rfl, decide_eq_true (by omega), by omega⟩, rfl⟩
    · have hf : allT D n = true := allT_true.2 (fun j hj => HT.out j (by omega))
      go_wp2
      go_ret
      exact ⟨⟨-1, rfl, rfl, by decide⟩, rfl⟩
theorem containsB_any {g n c : Nat} {D : Nat → Bool} (w : World) (h : DoneB w g n D) (hn : n ≤ 1000) : Calls Tryz.prog 150 #[.slice (some ⟨g, 0, none⟩) n c, .bool false] w fun e w' => e = .returned (.bool (!allT D n)) ∧ w = w' := by
  have HI := Lib.hid (indexB_any (c := c) w h hn)
  clear h
  generalize (!allT D n) = r at *
  go_enter Tryz.func150, Tryz.ntmps150
  go_wp2_with fail
  refine HI.out.mono ?_
  rintro e w' ⟨⟨z, rfl, hz, hz1⟩, rfl⟩
  go_wp2
  go_ret
  exact ⟨by rw [← hz]; rfl, rfl⟩
def RcRel (n p g : Nat) (W : Nat → Nat → Rat) (w : World) (cv : Value) (wr : World) : Prop :=
  ∃ (D : Nat → Bool) (ch : Bool), cv = .bool ch ∧ Hid (DoneB wr g n D) ∧ Hid (D p = true ∧ ∀ j, j < n → D j = true → Rch n W p j) ∧ Hid (ch = false → ((∀ j, j < n → D j = true) ↔ ∀ j, j < n → Rch n W p j)) ∧ Hid (Below w.heap.size w wr)
def RcRel2 (n p g c0 : Nat) (W : Nat → Nat → Rat) (w : World) (iv cv : Value) (wr : World) : Prop :=
  ∃ (i : Nat) (D : Nat → Bool) (ch : Bool), iv = .int .i64 (i : Int) ∧ cv = .bool ch ∧ i ≤ n ∧ Hid (DoneB wr g n D) ∧ Hid (PassI n W p c0 i 0 D ch) ∧ Hid (Below w.heap.size w wr)
def RcRel3 (n p g c0 i : Nat) (W : Nat → Nat → Rat) (w : World) (kv cv : Value) (wr : World) : Prop :=
  ∃ (k : Nat) (D : Nat → Bool) (ch : Bool), kv = .int .i64 (k : Int) ∧ cv = .bool ch ∧ k ≤ n ∧ Hid (DoneB wr g n D) ∧ Hid (PassI n W p c0 i k D ch) ∧ Hid (Below w.heap.size w wr)
def leftD (n g : Nat) (wr : World) (cv : Value) : Nat := match cv with
  | .bool true => 1 + (n - cntD (readD wr g) n)
  | _ => 0
set_option maxHeartbeats 2000000 in
set_option maxRecDepth 100000 in
theorem reachI_any {A : Option Addr} {c n p : Nat} {W : Nat → Nat → Rat} (w : World) (hx : RdRR w A n (fun _ => n) W) (hp : p < n) (hn : n ≤ 6) :
    Calls Tryz.prog 92 #[.slice A n c, .int .i64 (p : Int)] w fun e w' => e = .returned (.bool (rchB n W p)) ∧ Below w.heap.size w w' := by
  have HX := Lib.hid hx
  have hmk := run_make_row' (P := Tryz.prog) 168 4 (.bool false) 1 Tryz.underlying168 infoB rfl .i64 .i64 n (by omega) (by omega)
  obtain ⟨g, hg⟩ : ∃ g, g = w.heap.size := ⟨_, rfl⟩
  have HD0 : Hid (DoneB (w.alloc (.cells ((madeCells #[.bool false] n).setIfInBounds p (.bool true)) 4)) g n (setD (fun _ => false) p)) := Lib.hid (by rw [hg]; exact DoneB.one w hp)
  have H0 : Hid (RcRel n p g W w (.bool true) (w.alloc (.cells ((madeCells #[.bool false] n).setIfInBounds p (.bool true)) 4))) := Lib.hid ⟨_, true, rfl, HD0, Lib.hid ⟨by unfold setD; rw [if_pos rfl], fun j hj hd => by
    unfold setD at hd
    split at hd
    · rename_i e; subst e; exact .base
    · cases hd⟩, Lib.hid (fun h => by cases h), Lib.hid ((Below.refl _ _).alloc (Nat.le_refl _) _)⟩
  have z0 := (DoneB.made w n).frz p
  have z1 := (DoneB.made w n).at hp
  have hgw : w.heap.size ≤ g := by omega
  have hpn : (p : Int) < (n : Int) := by omega
  have HG := Lib.hid hg
  clear hx hg HD0
  go_enter Tryz.func92, Tryz.ntmps92
  go_upto_region 4 with (fail)
  rw [← HG.out]
  clear hmk z0 z1 HG
  go_loopw [6] (fun cv wr => RcRel n p g W w cv wr) (fun cv wr => leftD n g wr cv)
  case atStart => exact H0.out
  case round =>
    obtain ⟨D, ch, rfl, HD, HP, HE, HB⟩ := hrel
    clear H0
    cases ch with
    | true =>
      obtain ⟨c0, hc0⟩ : ∃ c0, c0 = cntD D n := ⟨_, rfl⟩
      have hM0 : leftD n g wr (.bool true) = 1 + (n - c0) := by unfold leftD; rw [HD.out.cnt, hc0]
      have H1 : Hid (RcRel2 n p g c0 W w (.int .i64 0) (.bool false) wr) := Lib.hid ⟨0, D, false, rfl, rfl, Nat.zero_le _, HD, Lib.hid (by rw [hc0]; exact PassI.start HP.out.1 HP.out.2), HB⟩
      clear HD HP HE HB hc0
      go_wp2
      go_loopw [20, 6] (fun iv cv w2 => RcRel2 n p g c0 W w iv cv w2) (fun iv _ _ => n - (intOf iv).toNat)
      case atStart => exact H1.out
      case round =>
        obtain ⟨i, D, ch, rfl, rfl, hi, HD, HPS, HB⟩ := hrel
        clear H1
        by_cases hin : i < n
        · have hin2 : (i : Int) < (n : Int) := by omega
          obtain ⟨gr, A6, c6, rfl, hgr, hrc, hrow0⟩ := HX.out.at hin
          have y := (HB.out.cell (p := ⟨gr, i, none⟩) hgr).trans hrc
          have H2 : Hid (RcRel3 n p g c0 i W w (.int .i64 0) (.bool ch) wr) := Lib.hid ⟨0, D, ch, rfl, rfl, Nat.zero_le _, HD, HPS, HB⟩
          have HROW := Lib.hid hrow0
          clear HD HPS HB hrc hrow0
          go_wp2
          clear y
          go_loopw [27, 6] (fun kv cv w2 => RcRel3 n p g c0 i W w kv cv w2) (fun kv _ _ => n - (intOf kv).toNat)
          case atStart => exact H2.out
          case round =>
            obtain ⟨k, D, ch, rfl, rfl, hk, HD, HPS, HB⟩ := hrel
            clear H2
            by_cases hkn : k < n
            · have hkn2 : (k : Int) < (n : Int) := by omega
              obtain ⟨gm, s, A1, k1, c1, A2, k2, c2, rfl, hgm, x0, x1, x2, hI⟩ := (HROW.out.below HB.out).at hkn
              obtain ⟨W5, hW5⟩ : ∃ W5, W5 = wr.alloc (.cells #[.bool s, .slice A1 k1 c1, .slice A2 k2 c2] 87) := ⟨_, rfl⟩
              obtain ⟨g9, hg9⟩ : ∃ g9, g9 = wr.heap.size := ⟨_, rfl⟩
              have hb5 : Below wr.heap.size wr W5 := by rw [hW5]; exact (Below.refl _ _).alloc (Nat.le_refl _) _
              have K9 : Hid (Blk W5 g9 87 #[.bool s, .slice A1 k1 c1, .slice A2 k2 c2]) := Lib.hid (by rw [hW5, hg9]; exact Blk.new wr _ _)
              have HD5 := Lib.hid (HD.out.below hb5)
              have HB5 := Lib.hid (Base.Below.nextA HB.out hb5)
              have HI5 := Lib.hid (hI.below hb5)
              have HW5 := Lib.hid hW5
              have HG9 := Lib.hid hg9
              clear hW5 hg9 hb5 hI HD HB
              go_upto_region 12 with (fail)
              rw [← HW5.out, ← HG9.out]
              clear HW5 HG9 x0 x1 x2
              have di := HD5.out.at hin
              have dk := HD5.out.at hkn
              cases hdi : D i with
              | true =>
                rw [hdi] at di
                have HN : Hid (RcRel3 n p g c0 i W w (.int .i64 ((k : Int) + 1)) (.bool ch) W5) := Lib.hid ⟨k + 1, D, ch, by simp, rfl, hkn, HD5, Lib.hid (HPS.out.skip (fun _ _ => hdi)), HB5⟩
                clear hdi HD5 HPS HB5 HI5 K9 dk
                go_wp2
                go_roundw
                case rel => exact HN.out
                case measure => simp [intOf]; omega
              | false =>
                rw [hdi] at di
                cases hdk : D k with
                | false =>
                  rw [hdk] at dk
                  have HN : Hid (RcRel3 n p g c0 i W w (.int .i64 ((k : Int) + 1)) (.bool ch) W5) := Lib.hid ⟨k + 1, D, ch, by simp, rfl, hkn, HD5, Lib.hid (HPS.out.skip (fun _ h => by rw [hdk] at h; cases h)), HB5⟩
                  clear hdi hdk HD5 HPS HB5 HI5 K9
                  go_wp2
                  go_roundw
                  case rel => exact HN.out
                  case measure => simp [intOf]; omega
                | true =>
                  rw [hdk] at dk
                  have HQ := Lib.hid (ratZero W5 HI5.out)
                  have y0 := K9.out.at 0 (v := .bool s) rfl
                  have y1 := K9.out.at 1 (v := .slice A1 k1 c1) rfl
                  have y2 := K9.out.at 2 (v := .slice A2 k2 c2) rfl
                  by_cases hz : W i k = 0
                  · rw [decide_eq_true hz] at HQ
                    have HN0 := Lib.hid (fun W' (hb : Below W5.heap.size W5 W') => show RcRel3 n p g c0 i W w (.int .i64 ((k : Int) + 1)) (.bool ch) W' from ⟨k + 1, D, ch, by simp, rfl, hkn, Lib.hid (HD5.out.below hb), Lib.hid (HPS.out.skip (fun h _ => absurd hz h)), Lib.hid (Base.Below.nextA HB5.out hb)⟩)
                    clear hdi hdk hz HD5 HPS HB5 HI5 K9
                    go_wp2_with fail
                    refine HQ.out.mono ?_
                    rintro e w6 ⟨rfl, hb6⟩
                    have HN := Lib.hid (HN0.out w6 hb6)
                    clear hb6 HN0 HQ y0 y1 y2 di dk
                    go_wp2
                    go_roundw
                    case rel => exact HN.out
                    case measure => simp [intOf]; omega
                  · rw [decide_eq_false hz] at HQ
                    have HN0 := Lib.hid (fun W' (hb : Below W5.heap.size W5 W') => show RcRel3 n p g c0 i W w (.int .i64 ((k : Int) + 1)) (.bool true) (W'.setCell ⟨g, i, none⟩ (.bool true)) from ⟨k + 1, setD D i, true, by simp, rfl, hkn, Lib.hid ((HD5.out.below hb).set hin), Lib.hid (HPS.out.mark hin hkn hz hdi hdk), Lib.hid ((Base.Below.nextA HB5.out hb).setCell (p := ⟨g, i, none⟩) hgw _)⟩)
                    have HDZ := Lib.hid (fun W' (hb : Below W5.heap.size W5 W') => And.intro ((HD5.out.below hb).at hin) ((HD5.out.below hb).frz i))
                    clear hz HD5 HPS HB5 HI5 K9
                    go_wp2_with fail
                    refine HQ.out.mono ?_
                    rintro e w6 ⟨rfl, hb6⟩
                    have HN := Lib.hid (HN0.out w6 hb6)
                    obtain ⟨u0, u1⟩ := HDZ.out w6 hb6
                    rw [hdi] at u0
                    clear hb6 HN0 HQ HDZ y0 y1 y2 di dk hdi hdk
                    go_wp2
                    go_roundw
                    case rel => exact HN.out
                    case measure => simp [intOf]; omega
            · have HN : Hid (RcRel2 n p g c0 W w (.int .i64 ((i : Int) + 1)) (.bool ch) wr) := Lib.hid ⟨i + 1, D, ch, by simp, rfl, hin, HD, Lib.hid (HPS.out.row (by omega)), HB⟩
              clear HD HPS HB
              go_wp2
              go_roundw
              case rel => exact HN.out
              case measure => simp [intOf]; omega
        · have hie : n ≤ i := by omega
          have HN : Hid (RcRel n p g W w (.bool ch) wr) := Lib.hid ⟨D, ch, rfl, HD, Lib.hid ⟨HPS.out.atp, HPS.out.right⟩, Lib.hid (fun h => by subst h; exact HPS.out.fin hie hp), HB⟩
          have hML : leftD n g wr (.bool ch) < 1 + (n - c0) := by
            unfold leftD
            cases ch with
            | false => show 0 < _; omega
            | true =>
              show 1 + (n - cntD (readD wr g) n) < _
              have h1 := HPS.out.yes rfl
              have h2 := cntD_le D n
              rw [HD.out.cnt]
              omega
          have HML := Lib.hid hML
          have HM := Lib.hid hM0
          clear HD HPS HB hML hM0
          go_wp2
          go_roundw
          case rel => exact HN.out
          case measure => rw [HM.out]; exact HML.out
    | false =>
      have HC := Lib.hid (containsB_any (c := n) wr HD.out (by omega))
      have HR : Hid ((!(!allT D n)) = rchB n W p) := Lib.hid (by
        rw [Bool.not_not]
        have he := HE.out rfl
        cases h : allT D n with
        | true => exact (rchB_true (he.1 (allT_true.1 h))).symm
        | false =>
          cases h2 : rchB n W p with
          | false => rfl
          | true =>
            unfold rchB at h2
            have h3 := @of_decide_eq_true _ (Classical.propDecidable _) h2
            rw [allT_true.2 (he.2 h3)] at h; cases h)
      generalize (!allT D n) = r at *
      clear HD HP HE
      go_wp2_with fail
      refine HC.out.mono ?_
      rintro e w7 ⟨rfl, rfl⟩
      go_wp2
      go_ret
      exact ⟨by rw [← HR.out]; rfl, HB.out⟩
end Go.Proofs.YtionognmgcabbaaGreat.Ratio
/- The program: whether a walk is valid. -/
namespace Go.Proofs.YtionognmgcabbaaGreat.Ratio
open Go.RowKit Go.Proofs.YtionognmgcabbaaGreat Go.Proofs.YtionognmgcabbaaGreat.Base Go.Proofs.YtionognmgcabbaaGreat.Mem Go.Proofs.YtionognmgcabbaaGreat.MemF Go.Proofs.YtionognmgcabbaaGreat.ChM Go.Proofs.YtionognmgcabbaaGreat.WalkM
set_option linter.unusedVariables false
theorem lenFF_any (A : Option Addr) (n c : Nat) (w : World) (h : n ≤ 9223372036854775807) :
    Calls Tryz.prog 91 #[.slice A n c] w fun e w' => e = .returned (.int .i64 (n : Int)) ∧ w = w' := by
  go_enter Tryz.func91, Tryz.ntmps91
  go_wp2
  go_ret
  exact ⟨rfl, rfl⟩
set_option maxHeartbeats 1000000 in
theorem closureW_any {A A' : Option Addr} {c c' B l n b0 : Nat} {fs : List Int} (w : World) (h0 : w.cell? ⟨b0, 0, none⟩ = some (.slice A n c)) (hx : RdF w B A' l fs) (hB : B ≤ w.heap.size) (hl : l ≤ 1099511627776) (hn : n ≤ 1099511627776) :
    Calls Tryz.prog 143 #[.slice A' l c', .pointer (some ⟨b0, 0, none⟩)] w fun e w' => e = .returned (.bool (!(decide (l = n) && chB fs l))) ∧ Below w.heap.size w w' := by
  have HC := Lib.hid (areCh_any (c := c') w hx hB hl)
  clear hx
  by_cases hln : l = n
  · have hne : ((l : Int) != (n : Int)) = false := by simp [hln]
    have HE : Hid ((!(decide (l = n) && chB fs l)) = !chB fs l) := Lib.hid (by rw [decide_eq_true hln, Bool.true_and])
    rw [HE.out]
    clear hln HE
    go_enter Tryz.func143, Tryz.ntmps143
    go_wp2_with fail
    refine HC.out.mono ?_
    rintro e w1 ⟨rfl, hb1⟩
    have HB1 := Lib.hid hb1
    clear hb1
    go_wp2
    go_ret
    exact ⟨ret_bool (by simp), HB1.out⟩
  · have hne : ((l : Int) != (n : Int)) = true := by simp; omega
    have HE : Hid ((!(decide (l = n) && chB fs l)) = true) := Lib.hid (by rw [decide_eq_false hln]; rfl)
    rw [HE.out]
    clear hln HE
    go_enter Tryz.func143, Tryz.ntmps143
    go_wp2
    go_ret
    exact ⟨rfl, Below.refl _ _⟩
set_option maxHeartbeats 1000000 in
theorem indexW_any {A : Option Addr} {c B n b0 : Nat} {L : Nat → Nat} {fs : Nat → List Int} (w : World) (h0 : w.cell? ⟨b0, 0, none⟩ = some (.slice A n c)) (hb0 : b0 < w.heap.size) (hx : RdFF w B A n L fs) (hB : B ≤ w.heap.size) (hL : ∀ i, i < n → L i ≤ 1099511627776) (hn : n ≤ 1099511627776) :
    Calls Tryz.prog 175 #[.slice A n c, .func (Fn.func 143) #[] #[.pointer (some ⟨b0, 0, none⟩)]] w (IdxRetB ((List.range n).all (rowOk n L fs)) w) := by
  have HX := Lib.hid (hx.more hB)
  clear hx
  go_enter Tryz.func175, Tryz.ntmps175
  go_wp2
  go_loopw [8] (fun iv wr => ∃ i : Nat, iv = .int .i64 (i : Int) ∧ i ≤ n ∧ Hid (∀ j, j < i → rowOk n L fs j = true) ∧ Hid (Below w.heap.size w wr)) (fun iv _ => n - (intOf iv).toNat)
  case atStart => exact ⟨0, rfl, Nat.zero_le _, Lib.hid fun j hj => absurd hj (Nat.not_lt_zero j), Lib.hid (Below.refl _ _)⟩
  case round =>
    obtain ⟨i, rfl, hi, hall, HB⟩ := hrel
    have d0 := (HB.out.cell (p := ⟨b0, 0, none⟩) hb0).trans h0
    by_cases hlt : i < n
    · obtain ⟨b, off, A', c', rfl, hbl, g, hr⟩ := (HX.out.below HB.out (Nat.le_refl _)).at hlt
      have HNO := Lib.hid (fun h : rowOk n L fs i = false => (show (List.range n).all (rowOk n L fs) = false from all_no hlt h))
      have HYES := Lib.hid (fun (h : rowOk n L fs i = true) j (hj : j < i + 1) => (show rowOk n L fs j = true by
        rcases Nat.lt_or_ge j i with h1 | h1
        · exact hall.out j h1
        · obtain rfl : j = i := by omega
          exact h))
      have HI : Hid (Calls Tryz.prog 143 #[.slice A' (L i) c', .pointer (some ⟨b0, 0, none⟩)] wr fun e w' => e = .returned (.bool (!rowOk n L fs i)) ∧ Below wr.heap.size wr w') := Lib.hid (closureW_any (c' := c') wr d0 hr HB.out.size (hL i hlt) hn)
      have hsz := HB.out.size
      clear hr hall d0
      generalize L i = l at *
      go_wp2_with fail
      refine HI.out.mono ?_
      rintro e w1 ⟨rfl, hb1⟩
      have HB1 := Lib.hid (Base.Below.nextA HB.out hb1)
      clear hb1 HI
      cases hv : rowOk n L fs i with
      | false =>
        have HE := Lib.hid (HNO.out hv)
        clear HNO HYES hv HB g
        go_wp2
        go_ret
        exact ⟨(i : Int), rfl, .inr ⟨by omega, HE.out⟩, HB1.out⟩
      | true =>
        have HA := Lib.hid (HYES.out hv)
        clear HNO HYES hv HB g
        go_wp2
        go_roundw
        case rel => exact ⟨i + 1, by simp, hlt, HA, HB1⟩
        case measure => simp [intOf]; omega
    · obtain rfl : i = n := by omega
      have HE := Lib.hid (all_range.2 hall.out)
      clear hall
      go_wp2
      go_ret
      exact ⟨-1, rfl, .inl ⟨rfl, HE.out⟩, HB.out⟩
theorem containsW_any {A : Option Addr} {c B n b0 : Nat} {L : Nat → Nat} {fs : Nat → List Int} (w : World) (h0 : w.cell? ⟨b0, 0, none⟩ = some (.slice A n c)) (hb0 : b0 < w.heap.size) (hx : RdFF w B A n L fs) (hB : B ≤ w.heap.size) (hL : ∀ i, i < n → L i ≤ 1099511627776) (hn : n ≤ 1099511627776) :
    Calls Tryz.prog 142 #[.slice A n c, .func (Fn.func 143) #[] #[.pointer (some ⟨b0, 0, none⟩)]] w fun e w' => e = .returned (.bool (!(List.range n).all (rowOk n L fs))) ∧ Below w.heap.size w w' := by
  have hc := Lib.hid (indexW_any w h0 hb0 hx hB hL hn)
  clear hx
  go_enter Tryz.func142, Tryz.ntmps142
  go_wp2_with fail
  refine hc.out.mono ?_
  rintro e w' ⟨r, rfl, ⟨rfl, hb⟩ | ⟨hr, hb⟩, hbl⟩
  all_goals
    have HB := Lib.hid hbl
    have HE := Lib.hid hb
    clear hbl hb
    go_wp2
    go_ret
    exact ⟨ret_bool (by rw [HE.out]; simp <;> omega), HB.out⟩
set_option maxHeartbeats 1000000 in
theorem walkI_any {A : Option Addr} {c B n : Nat} {L : Nat → Nat} {fs : Nat → List Int} (w : World) (hx : RdFF w B A n L fs) (hB : B ≤ w.heap.size) (hL : ∀ i, i < n → L i ≤ 1099511627776) (hn : n ≤ 1099511627776) :
    Calls Tryz.prog 80 #[.agg #[.slice A n c]] w fun e w' => e = .returned (.bool (wkB n L fs)) ∧ Below w.heap.size w w' := by
  have hb : Below w.heap.size w (w.alloc (.cells #[.slice A n c] 33)) := (Below.refl _ _).alloc (Nat.le_refl _) _
  have HC := Lib.hid (containsW_any (c := c) (b0 := w.heap.size) (w.alloc (.cells #[.slice A n c] 33)) (by simp) (by simp) (hx.below hb hB) (Nat.le_trans hB hb.size) hL hn)
  have HB := Lib.hid hb
  have HL := Lib.hid (fun W => lenFF_any A n c W (by omega))
  clear hb hx
  by_cases h : 1 ≤ n ∧ n ≤ 6
  · have HE := Lib.hid (wkB_in (L := L) (fs := fs) h)
    have HR := Lib.hid (inR_yes (n := (n : Int)) (lo := 1) (hi := 6) (by omega))
    clear h
    go_enter Tryz.func80, Tryz.ntmps80
    go_wp2_with fail
    refine (HL.out _).mono ?_
    rintro e w1 ⟨rfl, rfl⟩
    go_wp2_with fail
    refine (inRange_any _ _ _ _).mono ?_
    rintro e w1 ⟨rfl, rfl⟩
    rw [HR.out]
    go_wp2_with fail
    refine HC.out.mono ?_
    rintro e w1 ⟨rfl, hb1⟩
    have HB1 := Lib.hid (Base.Below.nextA HB.out hb1)
    clear hb1
    go_wp2
    go_ret
    exact ⟨ret_bool (by first | (rw [HE.out]; done) | (rw [HE.out]; simp)), HB1.out⟩
  · have HE := Lib.hid (wkB_out (L := L) (fs := fs) h)
    have HR := Lib.hid (inR_no (n := (n : Int)) (lo := 1) (hi := 6) (by omega))
    clear h
    go_enter Tryz.func80, Tryz.ntmps80
    go_wp2_with fail
    refine (HL.out _).mono ?_
    rintro e w1 ⟨rfl, rfl⟩
    go_wp2_with fail
    refine (inRange_any _ _ _ _).mono ?_
    rintro e w1 ⟨rfl, rfl⟩
    rw [HR.out]
    go_wp2
    go_ret
    exact ⟨by rw [HE.out]; rfl, HB.out⟩
end Go.Proofs.YtionognmgcabbaaGreat.Ratio
/- The program: a walk that is run. -/
namespace Go.Proofs.YtionognmgcabbaaGreat.Ratio
open Go.RowKit Go.Proofs.YtionognmgcabbaaGreat Go.Proofs.YtionognmgcabbaaGreat.Base Go.Proofs.YtionognmgcabbaaGreat.Mem Go.Proofs.YtionognmgcabbaaGreat.NatM Go.Proofs.YtionognmgcabbaaGreat.Nat32 Go.Proofs.YtionognmgcabbaaGreat.RatM Go.Proofs.YtionognmgcabbaaGreat.Blk Go.Proofs.YtionognmgcabbaaGreat.MemF Go.Proofs.YtionognmgcabbaaGreat.ChM Go.Proofs.YtionognmgcabbaaGreat.GaussM Go.Proofs.YtionognmgcabbaaGreat.WalkM Go.Proofs.YtionognmgcabbaaGreat.GiveM
open Go.Proofs.YtionognmgcabbaaGreat.Inv (natOf natOf_eq len_pos Rat3 not_slice not_bool frz)
set_option linter.unusedVariables false
theorem RdRR.congrL {w : World} {A : Option Addr} {n : Nat} {L L' : Nat → Nat} {f : Nat → Nat → Rat} (h : RdRR w A n L f) (hL : ∀ i, i < n → L i = L' i) : RdRR w A n L' f := fun h0 => by
  obtain ⟨g, e, hlt, hc⟩ := h h0
  exact ⟨g, e, hlt, fun i hi => by rw [← hL i hi]; exact hc i hi⟩
end Go.Proofs.YtionognmgcabbaaGreat.Ratio

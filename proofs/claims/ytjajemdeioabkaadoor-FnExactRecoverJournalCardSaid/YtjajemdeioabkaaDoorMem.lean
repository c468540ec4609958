/- Words for lists of int64 and lists of such lists in memory: read (Rd..), owned by the call (Own..); the laws' functions that compare, mark and ask them. -/
import Derived.Test.YtjajemdeioabkaaDoorBase
import Derived.Deep.OwnRows
import Derived.OwnWalk
import Derived.Laws.OwnMore
import Derived.Laws.Rows
import Derived.Maps.AppendAt
namespace Go.Proofs.YtjajemdeioabkaaDoor.Mem
open Go.RowKit Go.Proofs.YtjajemdeioabkaaDoor Go.Proofs.YtjajemdeioabkaaDoor.Base
set_option linter.unusedVariables false

/-! ### Plain lists -/
theorem getD_ext {α : Type} {xs ys : List α} (d : α) (hl : xs.length = ys.length) (h : ∀ i, i < xs.length → xs.getD i d = ys.getD i d) : xs = ys := by
  apply List.ext_getElem hl
  intro i h1 h2
  have := h i h1
  simpa [List.getD, h1, h2] using this
def marks (k n : Nat) : List Int := (List.range n).map fun i => ((k + i : Nat) : Int)
theorem marks_len (k n : Nat) : (marks k n).length = n := by simp [marks]
theorem marks_getD (k n i : Nat) (h : i < n) : (marks k n).getD i 0 = ((k + i : Nat) : Int) := by simp [marks, h]
theorem marks_succ (k n : Nat) : marks k (n + 1) = marks k n ++ [((k + n : Nat) : Int)] := by simp [marks, List.range_succ]
theorem mixed_set (k i : Nat) (xs : List Int) (h : i < xs.length) : (marks k i ++ xs.drop i).set i ((k + i : Nat) : Int) = marks k (i + 1) ++ xs.drop (i + 1) := by
  rw [List.set_append_right _ _ (by rw [marks_len]; omega), marks_len, Nat.sub_self, List.drop_eq_getElem_cons h, List.set_cons_zero, marks_succ, List.append_assoc]
  rfl
def tot (xss : List (List Int)) : Nat := (xss.map List.length).sum
theorem tot_cons (xs : List Int) (r : List (List Int)) : tot (xs :: r) = xs.length + tot r := by simp [tot]
def mk : Nat → List (List Int) → List (List Int)
  | _, [] => []
  | k, xs :: r => marks k xs.length :: mk (k + xs.length) r
theorem mk_len : ∀ (k : Nat) (xss : List (List Int)), (mk k xss).length = xss.length
  | _, [] => rfl
  | k, xs :: r => by simp [mk, mk_len]
theorem mk_getD : ∀ (k : Nat) (xss : List (List Int)) (i : Nat), i < xss.length → (mk k xss).getD i [] = marks (k + tot (xss.take i)) (xss.getD i []).length
  | _, [], i, h => absurd h (Nat.not_lt_zero i)
  | k, xs :: r, 0, h => by simp [mk, tot]
  | k, xs :: r, i + 1, h => by
    have := mk_getD (k + xs.length) r i (by simpa using h)
    simp only [mk, List.getD_cons_succ, List.take_succ_cons, tot_cons]
    rw [this, Nat.add_assoc]
theorem tot_take_succ : ∀ (xss : List (List Int)) (i : Nat), i < xss.length → tot (xss.take (i + 1)) = tot (xss.take i) + (xss.getD i []).length
  | [], i, h => absurd h (Nat.not_lt_zero i)
  | xs :: r, 0, h => by simp [tot]
  | xs :: r, i + 1, h => by
    have := tot_take_succ r i (by simpa using h)
    simp only [List.take_succ_cons, tot_cons, List.getD_cons_succ]
    rw [this]; omega
theorem tot_take_le (xss : List (List Int)) (i : Nat) : tot (xss.take i) ≤ tot xss := by
  have h : tot xss = tot (xss.take i) + tot (xss.drop i) := by
    conv => lhs; rw [← List.take_append_drop i xss]
    simp [tot, -List.take_append_drop]
  omega
theorem len_le_tot (xss : List (List Int)) (i : Nat) (h : i < xss.length) : (xss.getD i []).length ≤ tot xss := by
  have h1 := tot_take_succ xss i h
  have h2 := tot_take_le xss (i + 1)
  omega

/-! ### Reading -/
/-- the numbers xs lie behind A, in a block below B -/
def RdI (w : World) (B : Nat) (A : Option Addr) (xs : List Int) : Prop :=
  0 < xs.length → ∃ b off, A = some ⟨b, off, none⟩ ∧ b < B ∧ ∀ i, i < xs.length → w.cell? ⟨b, off + i, none⟩ = some (.int .i64 (xs.getD i 0))
/-- the lists xss lie behind A, in blocks below B -/
def RdII (w : World) (B : Nat) (A : Option Addr) (xss : List (List Int)) : Prop :=
  0 < xss.length → ∃ b off, A = some ⟨b, off, none⟩ ∧ b < B ∧ ∀ i, i < xss.length → ∃ A' c, w.cell? ⟨b, off + i, none⟩ = some (.slice A' (xss.getD i []).length c) ∧ RdI w B A' (xss.getD i [])
theorem RdI.below {w w' : World} {B C : Nat} {A : Option Addr} {xs : List Int} (h : RdI w B A xs) (hb : Below C w w') (hBC : B ≤ C) : RdI w' B A xs := fun h0 => by
  obtain ⟨b, off, e, hlt, hc⟩ := h h0
  exact ⟨b, off, e, hlt, fun i hi => (hb.cell (p := ⟨b, off + i, none⟩) (by show b < C; omega)).trans (hc i hi)⟩
theorem RdI.more {w : World} {B C : Nat} {A : Option Addr} {xs : List Int} (h : RdI w B A xs) (hBC : B ≤ C) : RdI w C A xs := fun h0 => by
  obtain ⟨b, off, e, hlt, hc⟩ := h h0
  exact ⟨b, off, e, by omega, hc⟩
theorem RdII.below {w w' : World} {B C : Nat} {A : Option Addr} {xss : List (List Int)} (h : RdII w B A xss) (hb : Below C w w') (hBC : B ≤ C) : RdII w' B A xss := fun h0 => by
  obtain ⟨b, off, e, hlt, hc⟩ := h h0
  refine ⟨b, off, e, hlt, fun i hi => ?_⟩
  obtain ⟨A', c, h1, h2⟩ := hc i hi
  exact ⟨A', c, (hb.cell (p := ⟨b, off + i, none⟩) (by show b < C; omega)).trans h1, h2.below hb hBC⟩
theorem RdII.more {w : World} {B C : Nat} {A : Option Addr} {xss : List (List Int)} (h : RdII w B A xss) (hBC : B ≤ C) : RdII w C A xss := fun h0 => by
  obtain ⟨b, off, e, hlt, hc⟩ := h h0
  refine ⟨b, off, e, by omega, fun i hi => ?_⟩
  obtain ⟨A', c, h1, h2⟩ := hc i hi
  exact ⟨A', c, h1, h2.more hBC⟩
theorem RdI.drewN {w : World} {B : Nat} {A : Option Addr} {xs : List Int} (h : RdI w B A xs) (n : Nat) : RdI (w.drewN n) B A xs := h.below (below_drewN (Below.refl B w) n) (Nat.le_refl _)
theorem RdII.drewN {w : World} {B : Nat} {A : Option Addr} {xs : List (List Int)} (h : RdII w B A xs) (n : Nat) : RdII (w.drewN n) B A xs := h.below (below_drewN (Below.refl B w) n) (Nat.le_refl _)

/-- a world that parts from w in draws alone -/
def Drawn (w w' : World) : Prop := ∃ m, w' = w.drewN m
theorem Drawn.refl (w : World) : Drawn w w := ⟨0, rfl⟩
theorem Drawn.next {w w' : World} (h : Drawn w w') (n : Nat) : Drawn w (w'.drewN n) := by
  obtain ⟨m, rfl⟩ := h
  exact ⟨m + n, by rw [World.drewN_drewN]⟩
theorem Drawn.below {B : Nat} {w w' : World} (h : Drawn w w') : Below B w w' := by
  obtain ⟨m, rfl⟩ := h
  exact below_drewN (Below.refl _ _) m

/-! ### Two lists compared -/
/-! ### A list asked for its marks -/
/-! ### Lists of the call's own -/
def ints (xs : List Int) : List Value := xs.map (Value.int .i64)
theorem ints_len (xs : List Int) : (ints xs).length = xs.length := by simp [ints]
theorem ints_get (xs : List Int) (i : Nat) (h : i < xs.length) : (ints xs)[i]? = some (.int .i64 (xs.getD i 0)) := by simp [ints, List.getD, h]
theorem ints_one (xs : List Int) : ∀ u ∈ ints xs, u.oneCell' = true := by
  intro u hu
  simp only [ints, List.mem_map] at hu
  obtain ⟨x, _, rfl⟩ := hu
  rfl
/-- the list xs is the call's own, in a block from B on -/
def OwnI (w : World) (B : Nat) (u : Value) (xs : List Int) : Prop := w.ownsRow B 2 1 u xs.length (ints xs)
/-- the lists xss are the call's own, in blocks from B on that all differ -/
structure OwnII (w : World) (B : Nat) (v : Value) (xss : List (List Int)) (us : List Value) : Prop where
  len : us.length = xss.length
  outer : w.ownsRow B 77 1 v xss.length us
  inner : ∀ i, i < xss.length → OwnI w B (us.getD i undef) (xss.getD i [])
  apart : ∀ i j g, i < j → j < xss.length → (us.getD i undef).ownBlock = some g → (us.getD j undef).ownBlock ≠ some g
theorem ownsRow_form {w : World} {base : Nat} {e : TypeId} {size n : Nat} {v : Value} {xs : List Value} (h : w.ownsRow base e size v n xs) : ∃ A c, v = .slice A n c ∧ (0 < n → ∃ g, A = some ⟨g, 0, none⟩ ∧ base ≤ g ∧ g < w.heap.size) := by
  rcases h.2 with ⟨rfl, rfl⟩ | ⟨g, cap, cur, rfl, hb, hh, _⟩
  · exact ⟨none, 0, rfl, fun h => absurd h (Nat.lt_irrefl 0)⟩
  · refine ⟨some ⟨g, 0, none⟩, cap, rfl, fun _ => ⟨g, rfl, hb, ?_⟩⟩
    rcases Nat.lt_or_ge g w.heap.size with hlt | hge
    · exact hlt
    · rw [Array.getElem?_eq_none hge] at hh; cases hh
theorem ownsRow_below {w w' : World} {base : Nat} {e : TypeId} {size n : Nat} {v : Value} {xs : List Value} (h : w.ownsRow base e size v n xs) (hb : Below w.heap.size w w') : w'.ownsRow base e size v n xs := by
  refine ⟨h.1, ?_⟩
  rcases h.2 with h0 | ⟨g, cap, cur, rfl, h1, hh, h2⟩
  · exact .inl h0
  · have hlt : g < w.heap.size := by
      rcases Nat.lt_or_ge g w.heap.size with hlt | hge
      · exact hlt
      · rw [Array.getElem?_eq_none hge] at hh; cases hh
    exact .inr ⟨g, cap, cur, rfl, h1, (hb.block g hlt).trans hh, h2⟩
theorem ownsRow_base {w : World} {base base' : Nat} {e : TypeId} {size n : Nat} {v : Value} {xs : List Value} (h : w.ownsRow base e size v n xs) (hb : base' ≤ base) : w.ownsRow base' e size v n xs := by
  refine ⟨h.1, ?_⟩
  rcases h.2 with h0 | ⟨g, cap, cur, rfl, h1, h2⟩
  · exact .inl h0
  · exact .inr ⟨g, cap, cur, rfl, by omega, h2⟩
theorem OwnI.rd {w : World} {B n c : Nat} {A : Option Addr} {xs : List Int} (h : OwnI w B (.slice A n c) xs) : RdI w w.heap.size A xs := fun h0 => by
  obtain ⟨A', c', e, hf⟩ := ownsRow_form h
  injection e with e1 e2 e3
  subst e1 e2 e3
  obtain ⟨g, rfl, _, hlt⟩ := hf h0
  refine ⟨g, 0, rfl, hlt, fun i hi => ?_⟩
  rw [Nat.zero_add, World.ownsRow.cellAt h i (by omega), ints_get xs i hi]
theorem OwnI.form {w : World} {B : Nat} {u : Value} {xs : List Int} (h : OwnI w B u xs) : ∃ A c, u = .slice A xs.length c ∧ (0 < xs.length → ∃ g, A = some ⟨g, 0, none⟩ ∧ B ≤ g ∧ g < w.heap.size) := ownsRow_form h
theorem OwnII.form {w : World} {B : Nat} {v : Value} {xss : List (List Int)} {us : List Value} (h : OwnII w B v xss us) : ∃ A c, v = .slice A xss.length c ∧ (0 < xss.length → ∃ g, A = some ⟨g, 0, none⟩ ∧ B ≤ g ∧ g < w.heap.size) := ownsRow_form h.outer
theorem OwnII.rd {w : World} {B n c : Nat} {A : Option Addr} {xss : List (List Int)} {us : List Value} (h : OwnII w B (.slice A n c) xss us) : RdII w w.heap.size A xss := fun h0 => by
  obtain ⟨A', c', e, hf⟩ := h.form
  injection e with e1 e2 e3
  subst e1 e2 e3
  obtain ⟨g, rfl, _, hlt⟩ := hf h0
  refine ⟨g, 0, rfl, hlt, fun i hi => ?_⟩
  have hi' := h.inner i hi
  obtain ⟨A2, c2, e2, _⟩ := hi'.form
  rw [e2] at hi'
  refine ⟨A2, c2, ?_, hi'.rd⟩
  rw [Nat.zero_add, World.ownsRow.cellAt h.outer i (by omega), ← e2]
  have hl : i < us.length := by rw [h.len]; exact hi
  simp [List.getD, hl]
theorem OwnI.below {w w' : World} {B : Nat} {u : Value} {xs : List Int} (h : OwnI w B u xs) (hb : Below w.heap.size w w') : OwnI w' B u xs := ownsRow_below h hb
theorem OwnII.below {w w' : World} {B : Nat} {v : Value} {xss : List (List Int)} {us : List Value} (h : OwnII w B v xss us) (hb : Below w.heap.size w w') : OwnII w' B v xss us :=
  ⟨h.len, ownsRow_below h.outer hb, fun i hi => (h.inner i hi).below hb, h.apart⟩

/-! ### A list marked -/
theorem grown_trans {a b c : World} {row : Option Nat} (h : a.grownBy b row) (k : b.grownBy c row) : a.grownBy c row :=
  ⟨k.os.trans h.os, k.tape.trans h.tape, k.output.trans h.output, Nat.le_trans h.size k.size, fun i hi hne => (k.block i (Nat.lt_of_lt_of_le hi h.size) hne).trans (h.block i hi hne)⟩
theorem ints_set (xs : List Int) (i : Nat) (x : Int) : (ints xs).set i (.int .i64 x) = ints (xs.set i x) := by simp [ints, List.map_set]
def MarkRel (B k n : Nat) (A : Option Addr) (c : Nat) (xs : List Int) (w : World) (q i : Value) (wr : World) : Prop :=
  ∃ j : Nat, j ≤ n ∧ i = .int .i64 (j : Int) ∧ q = .int .i64 ((k : Int) + (j : Int)) ∧ wr.ownsRow B 2 1 (.slice A n c) n (ints (marks k j ++ xs.drop j)) ∧ w.grownBy wr (Value.slice A n c).ownBlock
theorem MarkRel.next {B k n j c g : Nat} {xs : List Int} {w wr : World} (hn : xs.length = n) (hj : j < n)
    (h : wr.ownsRow B 2 1 (.slice (some ⟨g, 0, none⟩) n c) n (ints (marks k j ++ xs.drop j))) (hg : w.grownBy wr (Value.slice (some ⟨g, 0, none⟩) n c).ownBlock) :
    MarkRel B k n (some ⟨g, 0, none⟩) c xs w (.int .i64 ((k : Int) + (j : Int) + 1)) (.int .i64 ((j : Int) + 1)) (wr.setCell ⟨g, j, none⟩ (.int .i64 ((k : Int) + (j : Int)))) := by
  obtain ⟨h1, h2⟩ := h.stored j (.int .i64 ((k : Int) + (j : Int)))
  refine ⟨j + 1, hj, by simp, by simp [Int.add_assoc], ?_, grown_trans hg h2⟩
  rw [ints_set, show ((k : Int) + (j : Int)) = ((k + j : Nat) : Int) by simp, mixed_set k j xs (by omega)] at h1
  exact h1
theorem ownsRow_block {w : World} {base : Nat} {e : TypeId} {size n g : Nat} {v : Value} {xs : List Value} (h : w.ownsRow base e size v n xs) (hg : v.ownBlock = some g) : ∃ cur, w.heap[g]? = some (.cells cur e (0, 0)) ∧ base ≤ g ∧ g < w.heap.size := by
  rcases h.2 with ⟨rfl, _⟩ | ⟨g', cap, cur, rfl, hb, hh, _⟩
  · simp [Value.ownBlock] at hg
  · have : g' = g := by simpa [Value.ownBlock] using hg
    subst this
    refine ⟨cur, hh, hb, ?_⟩
    rcases Nat.lt_or_ge g' w.heap.size with hlt | hge
    · exact hlt
    · rw [Array.getElem?_eq_none hge] at hh; cases hh
/-- rows of different element types share no block -/
theorem own_ne {w : World} {base base' : Nat} {e e' : TypeId} {size n size' n' : Nat} {v v' : Value} {xs xs' : List Value} (h : w.ownsRow base e size v n xs) (h' : w.ownsRow base' e' size' v' n' xs') (hne : e ≠ e') : v.ownBlock = none ∨ v.ownBlock ≠ v'.ownBlock := by
  rcases hv : v.ownBlock with _ | g
  · exact .inl rfl
  · refine .inr fun e1 => ?_
    obtain ⟨cur, h1, _⟩ := ownsRow_block h hv
    obtain ⟨cur', h2, _⟩ := ownsRow_block h' e1.symm
    rw [h1] at h2
    injection h2 with h2
    injection h2 with _ ht
    exact hne ht
theorem grown_below {B : Nat} {w w' : World} {row : Option Nat} (h : w.grownBy w' row) (hr : ∀ g, row = some g → B ≤ g) (hB : B ≤ w.heap.size) : Below B w w' := (Below.refl B w).grown h hB hr
theorem OwnII.mark {w w' : World} {B j : Nat} {v : Value} {xss : List (List Int)} {us : List Value} {ys : List Int} (h : OwnII w B v xss us) (hj : j < xss.length)
    (hl : ys.length = (xss.getD j []).length) (hr : w'.ownsRow B 2 1 (us.getD j undef) ys.length (ints ys)) (hg : w.grownBy w' (us.getD j undef).ownBlock) :
    OwnII w' B v (xss.set j ys) us := by
  refine ⟨by simpa using h.len, ?_, fun i hi => ?_, fun i k g hik hk => h.apart i k g hik (by simpa using hk)⟩
  · rw [List.length_set]
    exact h.outer.kept hg (own_ne h.outer (h.inner j hj) (by decide))
  · rw [List.length_set] at hi
    by_cases e : i = j
    · subst e
      rw [show (xss.set i ys).getD i [] = ys by simp [List.getD, hi]]
      exact hr
    · rw [show (xss.set j ys).getD i [] = xss.getD i [] by simp [List.getD, List.getElem?_set_ne (fun h => e h.symm)]]
      refine World.ownsRow.kept (h.inner i hi) hg ?_
      rcases hv : (us.getD i undef).ownBlock with _ | g
      · exact .inl rfl
      · refine .inr fun e1 => ?_
        rcases Nat.lt_or_gt_of_ne e with hlt | hgt
        · exact h.apart i j g hlt hj hv e1.symm
        · exact h.apart j i g hgt hi e1.symm hv
def mixed (k : Nat) (xss : List (List Int)) (j : Nat) : List (List Int) := (mk k xss).take j ++ xss.drop j
theorem mixed_len (k : Nat) (xss : List (List Int)) (j : Nat) (h : j ≤ xss.length) : (mixed k xss j).length = xss.length := by simp [mixed, mk_len]; omega
theorem mixed_at (k : Nat) (xss : List (List Int)) (j : Nat) (h : j < xss.length) : (mixed k xss j).getD j [] = xss.getD j [] := by
  have hl : ((mk k xss).take j).length = j := by simp [mk_len]; omega
  simp [mixed, List.getD, List.getElem?_append_right (Nat.le_of_eq hl), hl]
theorem mixed_succ (k : Nat) (xss : List (List Int)) (j : Nat) (h : j < xss.length) : (mixed k xss j).set j (marks (k + tot (xss.take j)) (xss.getD j []).length) = mixed k xss (j + 1) := by
  have hl : ((mk k xss).take j).length = j := by simp [mk_len]; omega
  have hl' : j < (mk k xss).length := by rw [mk_len]; exact h
  unfold mixed
  rw [List.set_append_right _ _ (Nat.le_of_eq hl), hl, Nat.sub_self, List.drop_eq_getElem_cons h, List.set_cons_zero, List.take_succ_eq_append_getElem hl', List.append_assoc]
  congr 1
  have := mk_getD k xss j h
  rw [List.getD, List.getElem?_eq_getElem hl'] at this
  simp only [Option.getD_some] at this
  rw [this]; rfl
theorem mixed_zero (k : Nat) (xss : List (List Int)) : mixed k xss 0 = xss := by simp [mixed]
theorem mixed_end (k : Nat) (xss : List (List Int)) : mixed k xss xss.length = mk k xss := by
  unfold mixed
  rw [List.drop_length, List.append_nil, List.take_of_length_le (by rw [mk_len]; exact Nat.le_refl _)]
/-- blocks of other elements than numbers are as before -/
def NotInts (w w' : World) : Prop := ∀ (g : Nat) (cur : Array Value) (t : TypeId), w.heap[g]? = some (.cells cur t (0, 0)) → t ≠ 2 → w'.heap[g]? = some (.cells cur t (0, 0))
theorem NotInts.refl (w : World) : NotInts w w := fun _ _ _ h _ => h
theorem NotInts.trans {a b c : World} (h : NotInts a b) (k : NotInts b c) : NotInts a c := fun g cur t q ht => k g cur t (h g cur t q ht) ht
theorem NotInts.grown {w w' : World} {B n size : Nat} {v : Value} {xs : List Value} (hr : w.ownsRow B 2 size v n xs) (h : w.grownBy w' v.ownBlock) : NotInts w w' := fun g cur t hg ht => by
  have hlt : g < w.heap.size := by
    rcases Nat.lt_or_ge g w.heap.size with hlt | hge
    · exact hlt
    · rw [Array.getElem?_eq_none hge] at hg; cases hg
  refine (h.block g hlt fun e => ?_).trans hg
  obtain ⟨cur', h2, _⟩ := ownsRow_block hr (by first | exact e | exact e.symm)
  rw [hg] at h2
  injection h2 with h2
  injection h2 with _ h3
  exact ht h3
/-- blocks from C on are as before -/
def Above (C : Nat) (w w' : World) : Prop := ∀ g, C ≤ g → g < w.heap.size → w'.heap[g]? = w.heap[g]?
theorem Above.refl (C : Nat) (w : World) : Above C w w := fun _ _ _ => rfl
theorem Above.trans {C : Nat} {a b c : World} (h : Above C a b) (k : Above C b c) (hs : a.heap.size ≤ b.heap.size) : Above C a c := fun g h1 h2 => (k g h1 (by omega)).trans (h g h1 h2)
theorem Above.grown {C : Nat} {w w' : World} {row : Option Nat} (h : w.grownBy w' row) (hr : ∀ g, row = some g → g < C) : Above C w w' := fun g h1 h2 =>
  h.block g h2 fun e => by
    have := hr g (by first | exact e | exact e.symm)
    omega
theorem Above.below {C : Nat} {w w' : World} (h : Below w.heap.size w w') : Above C w w' := fun g _ h2 => h.block g h2
theorem ownsRow_above {w w' : World} {B : Nat} {e : TypeId} {size n : Nat} {v : Value} {xs : List Value} (h : w.ownsRow B e size v n xs) (hb : Above B w w') : w'.ownsRow B e size v n xs := by
  refine ⟨h.1, ?_⟩
  rcases h.2 with h0 | ⟨g, cap, cur, rfl, h1, hh, h2⟩
  · exact .inl h0
  · have hlt : g < w.heap.size := by
      rcases Nat.lt_or_ge g w.heap.size with hlt | hge
      · exact hlt
      · rw [Array.getElem?_eq_none hge] at hh; cases hh
    exact .inr ⟨g, cap, cur, rfl, h1, (hb g h1 hlt).trans hh, h2⟩
theorem OwnII.above {w w' : World} {B : Nat} {v : Value} {xss : List (List Int)} {us : List Value} (h : OwnII w B v xss us) (hb : Above B w w') : OwnII w' B v xss us :=
  ⟨h.len, ownsRow_above h.outer hb, fun i hi => ownsRow_above (h.inner i hi) hb, h.apart⟩
/-- what a marking leaves: blocks of other elements, and blocks behind all that are marked -/
structure Marked (us : List Value) (n : Nat) (w w' : World) : Prop where
  not : NotInts w w'
  abv : ∀ C, (∀ i g, i < n → (us.getD i undef).ownBlock = some g → g < C) → Above C w w'
theorem Marked.refl (us : List Value) (n : Nat) (w : World) : Marked us n w w := ⟨NotInts.refl w, fun C _ => Above.refl C w⟩
theorem OwnII.fits {w : World} {B : Nat} {v : Value} {xss : List (List Int)} {us : List Value} (h : OwnII w B v xss us) : ∀ i g, i < xss.length → (us.getD i undef).ownBlock = some g → g < w.heap.size := fun i g hi hg => by
  obtain ⟨_, _, _, h4⟩ := ownsRow_block (h.inner i hi) hg
  exact h4
def MarkRel2 (B k : Nat) (v : Value) (xss : List (List Int)) (us : List Value) (w : World) (q i : Value) (wr : World) : Prop :=
  ∃ j : Nat, j ≤ xss.length ∧ i = .int .i64 (j : Int) ∧ q = .int .i64 ((k + tot (xss.take j) : Nat) : Int) ∧ OwnII wr B v (mixed k xss j) us ∧ Below B w wr ∧ Marked us xss.length w wr
/-! ### A list pushed onto lists of the call's own -/
theorem OwnII.push {wr w1 w2 : World} {B : Nat} {v v' u : Value} {xss : List (List Int)} {us : List Value} {ys : List Int} (h : OwnII wr B v xss us) (h1 : Below wr.heap.size wr w1)
    (hu : w1.ownsRow wr.heap.size 2 1 u ys.length (ints ys)) (hown : w2.ownsRow B 77 1 v' (xss.length + 1) (us ++ [u])) (hg : w1.grownBy w2 v.ownBlock) (hB : B ≤ wr.heap.size) :
    OwnII w2 B v' (xss ++ [ys]) (us ++ [u]) := by
  have ho1 := ownsRow_below h.outer h1
  refine ⟨by simp [h.len], by rw [List.length_append]; exact hown, fun i hi => ?_, fun i j g hij hj hg1 hg2 => ?_⟩
  · rw [List.length_append] at hi
    rcases Nat.lt_or_ge i xss.length with hlt | hge
    · have hl : i < us.length := by rw [h.len]; exact hlt
      rw [show (us ++ [u]).getD i undef = us.getD i undef by simp [List.getD, List.getElem?_append_left hl],
        show (xss ++ [ys]).getD i [] = xss.getD i [] by simp [List.getD, List.getElem?_append_left hlt]]
      have hi1 := (h.inner i hlt).below h1
      exact World.ownsRow.kept hi1 hg (own_ne hi1 ho1 (by decide))
    · obtain rfl : i = xss.length := by simp at hi; omega
      rw [show (us ++ [u]).getD xss.length undef = u by simp [List.getD, ← h.len],
        show (xss ++ [ys]).getD xss.length [] = ys by simp [List.getD]]
      exact World.ownsRow.kept (ownsRow_base hu hB) hg (own_ne hu ho1 (by decide))
  · rw [List.length_append] at hj
    have hlt : i < xss.length := by simp at hj; omega
    have hl : i < us.length := by rw [h.len]; exact hlt
    rw [show (us ++ [u]).getD i undef = us.getD i undef by simp [List.getD, List.getElem?_append_left hl]] at hg1
    rcases Nat.lt_or_ge j xss.length with hj1 | hge
    · have hlj : j < us.length := by rw [h.len]; exact hj1
      rw [show (us ++ [u]).getD j undef = us.getD j undef by simp [List.getD, List.getElem?_append_left hlj]] at hg2
      exact h.apart i j g hij hj1 hg1 hg2
    · obtain rfl : j = xss.length := by simp at hj; omega
      rw [show (us ++ [u]).getD xss.length undef = u by simp [List.getD, ← h.len]] at hg2
      obtain ⟨_, _, _, b1⟩ := ownsRow_block (h.inner i hlt) hg1
      obtain ⟨_, _, b2, _⟩ := ownsRow_block hu hg2
      omega
theorem OwnII.nil (w : World) (B : Nat) : OwnII w B (.slice none 0 0) [] [] :=
  ⟨rfl, World.ownsRow_nil w B _ 1, fun i hi => absurd hi (Nat.not_lt_zero i), fun i j g _ hj => absurd hj (Nat.not_lt_zero j)⟩
/-- 'make' or a literal of length 0 -/
theorem OwnII.lit0 (w : World) {B : Nat} (hB : B ≤ w.heap.size) (c : Array Value) (hc : c.size = 0) : OwnII (w.alloc (.cells c 77)) B (.slice (some ⟨w.heap.size, 0, none⟩) 0 0) [] [] :=
  ⟨rfl, World.ownsRow_made w c 0 hB (Nat.zero_le _) (by simpa using hc), fun i hi => absurd hi (Nat.not_lt_zero i), fun i j g _ hj => absurd hj (Nat.not_lt_zero j)⟩
theorem infoS : (Tryd.prog.info? 77).map (fun i => (i.zero, i.size, i.bytes)) = some (some (.slice none 0 0), 1, 24) := by kernel_rfl
theorem infoI : (Tryd.prog.info? 2).map (fun i => (i.zero, i.size, i.bytes)) = some (some (.int .i64 0), 1, 8) := by kernel_rfl
/-- a literal of numbers, new -/
theorem own_lit (w : World) {B : Nat} (hB : B ≤ w.heap.size) (xs : List Int) (hm : xs.length ≤ maxLen) : (w.alloc (.cells (ints xs).toArray 2)).ownsRow B 2 1 (.slice (some ⟨w.heap.size, 0, none⟩) xs.length xs.length) xs.length (ints xs) := by
  have := World.ownsRow_lit (e := 2) (size := 1) (base := B) w (ints xs).toArray xs.length hB hm (by simp [ints_len])
  simpa using this
theorem news_one (w : World) (u : Value) (t : TypeId) {g : Nat} (hg : g = w.heap.size) : ∀ (j : Nat) (x : Value), [u][j]? = some x → (w.alloc (.cells #[u] t)).cell? ((⟨g, 0, none⟩ : Addr).add j) = some x := by
  subst hg
  intro j x hx
  match j with
  | 0 =>
    have : u = x := by simpa using hx
    subst this
    exact World.cell?_alloc_new w #[u] t 0
  | j + 1 => simp at hx
theorem one_slice {A : Option Addr} {n c : Nat} : ∀ u ∈ [Value.slice A n c], u.oneCell' = true := by
  intro u hu
  simp only [List.mem_singleton] at hu
  subst hu; rfl
theorem one_int {k : IntKind} {n : Int} : ∀ u ∈ [Value.int k n], u.oneCell' = true := by
  intro u hu
  simp only [List.mem_singleton] at hu
  subst hu; rfl

/-! ### Bytes -/
/-- the bytes zs lie behind A, in a block below B -/
def RdB (w : World) (B : Nat) (A : Option Addr) (zs : List Int) : Prop :=
  0 < zs.length → ∃ b off, A = some ⟨b, off, none⟩ ∧ b < B ∧ ∀ i, i < zs.length → w.cell? ⟨b, off + i, none⟩ = some (.int .u8 (zs.getD i 0))
theorem RdB.below {w w' : World} {B C : Nat} {A : Option Addr} {xs : List Int} (h : RdB w B A xs) (hb : Below C w w') (hBC : B ≤ C) : RdB w' B A xs := fun h0 => by
  obtain ⟨b, off, e, hlt, hc⟩ := h h0
  exact ⟨b, off, e, hlt, fun i hi => (hb.cell (p := ⟨b, off + i, none⟩) (by show b < C; omega)).trans (hc i hi)⟩
theorem RdB.more {w : World} {B C : Nat} {A : Option Addr} {xs : List Int} (h : RdB w B A xs) (hBC : B ≤ C) : RdB w C A xs := fun h0 => by
  obtain ⟨b, off, e, hlt, hc⟩ := h h0
  exact ⟨b, off, e, by omega, hc⟩
theorem RdB.drewN {w : World} {B : Nat} {A : Option Addr} {xs : List Int} (h : RdB w B A xs) (n : Nat) : RdB (w.drewN n) B A xs := h.below (below_drewN (Below.refl B w) n) (Nat.le_refl _)
theorem OwnII.base {w : World} {B B' : Nat} {v : Value} {xss : List (List Int)} {us : List Value} (h : OwnII w B v xss us) (hB : B' ≤ B) : OwnII w B' v xss us :=
  ⟨h.len, ownsRow_base h.outer hB, fun i hi => ownsRow_base (h.inner i hi) hB, h.apart⟩
theorem OwnII.setLow {w : World} {B : Nat} {v : Value} {xss : List (List Int)} {us : List Value} (h : OwnII w B v xss us) {a : Addr} (ha : a.block < B) (u : Value) : OwnII (w.setCell a u) B v xss us :=
  ⟨h.len, ownsRow_setCell_below h.outer ha u, fun i hi => ownsRow_setCell_below (h.inner i hi) ha u, h.apart⟩
theorem OwnI_above {w w' : World} {B : Nat} {u : Value} {xs : List Int} (h : OwnI w B u xs) (hb : Above B w w') : OwnI w' B u xs := ownsRow_above h hb
theorem OwnII_above {w w' : World} {B : Nat} {v : Value} {xss : List (List Int)} {us : List Value} (h : OwnII w B v xss us) (hb : Above B w w') : OwnII w' B v xss us := h.above hb
theorem OwnI_rdm {w : World} {B n c : Nat} {A : Option Addr} (h : w.ownsRow B 2 1 (.slice A n c) n (ints (marks 1 n))) : RdI w w.heap.size A (marks 1 n) := by
  have h' : OwnI w B (.slice A n c) (marks 1 n) := by
    unfold OwnI
    rw [marks_len]
    exact h
  exact h'.rd
end Go.Proofs.YtjajemdeioabkaaDoor.Mem

/- Small contracts that nearly all walks use: the tests of a range, least and greatest. -/
import Derived.Test.YtionognmgcabbaaGreatRows
import Derived.WalkKit
import Derived.Lib.Hide
import Derived.Deep.QuietTactic
import Derived.BigQuiet
import Derived.Deep.Draws
import Derived.Below
import Derived.Outline
import Derived.Deep.OwnRows
import Derived.OwnWalk
import Derived.Laws.OwnMore
import Derived.Laws.Rows
import Derived.Maps.AppendAt
import Derived.BigRegion
import Derived.Laws.BitsAllLaws
import Derived.Laws.BitsLemmas
namespace Go.Proofs.YtionognmgcabbaaGreat.Base
open Go.RowKit Go.Proofs.YtionognmgcabbaaGreat
set_option linter.unusedVariables false

theorem ret_int {k : IntKind} {a b : Int} (h : a = b) : Ending.returned (.int k a) = .returned (.int k b) := by rw [h]
theorem ret_bool {a b : Bool} (h : a = b) : Ending.returned (.bool a) = .returned (.bool b) := by rw [h]

/-- n lies from lo to hi -/
def inR (n lo hi : Int) : Bool := decide (lo ≤ n) && decide (n ≤ hi)
theorem inR_true {n lo hi : Int} (h : inR n lo hi = true) : lo ≤ n ∧ n ≤ hi := by simpa [inR] using h
theorem inR_false {n lo hi : Int} (h : inR n lo hi = false) : ¬ (lo ≤ n ∧ n ≤ hi) := by
  intro h'; simp [inR, h'.1, h'.2] at h
theorem inR_yes {n lo hi : Int} (h : lo ≤ n ∧ n ≤ hi) : inR n lo hi = true := by simp [inR, h.1, h.2]
theorem inR_no {n lo hi : Int} (h : ¬ (lo ≤ n ∧ n ≤ hi)) : inR n lo hi = false := by
  cases h' : inR n lo hi
  · rfl
  · exact absurd (inR_true h') h

theorem inRange_any (n lo hi : Int) (w : World) :
    Calls Tryz.prog 90 #[.int .i64 n, .int .i64 lo, .int .i64 hi] w fun e w' => e = .returned (.bool (inR n lo hi)) ∧ w = w' := by
  by_cases h1 : lo ≤ n
  all_goals by_cases h2 : n ≤ hi
  all_goals
    go_enter Tryz.func90, Tryz.ntmps90
    go_wp2
    go_ret
    exact ⟨ret_bool (by simp [inR, h1, h2]), rfl⟩

theorem l00In_any (n lo hi : Int) (w : World) :
    Calls Tryz.prog 84 #[.int .i64 n, .int .i64 lo, .int .i64 hi] w fun e w' => e = .returned (.bool (inR n lo hi)) ∧ w = w' := by
  by_cases h1 : lo ≤ n
  all_goals by_cases h2 : n ≤ hi
  all_goals
    go_enter Tryz.func84, Tryz.ntmps84
    go_wp2
    go_ret
    exact ⟨ret_bool (by simp [inR, h1, h2]), rfl⟩
theorem inRange_q (n lo hi : Int) (w : World) :
    Calls Tryz.prog 90 #[.int .i64 n, .int .i64 lo, .int .i64 hi] w fun e w' => e = .returned (.bool (inR n lo hi)) ∧ w' = w :=
  (inRange_any n lo hi w).mono fun _ _ h => ⟨h.1, h.2.symm⟩
theorem l00In_q (n lo hi : Int) (w : World) :
    Calls Tryz.prog 84 #[.int .i64 n, .int .i64 lo, .int .i64 hi] w fun e w' => e = .returned (.bool (inR n lo hi)) ∧ w' = w :=
  (l00In_any n lo hi w).mono fun _ _ h => ⟨h.1, h.2.symm⟩
theorem inRange_qb {n lo hi : Int} {r : Bool} (h : inR n lo hi = r) (w : World) :
    Calls Tryz.prog 90 #[.int .i64 n, .int .i64 lo, .int .i64 hi] w fun e w' => e = .returned (.bool r) ∧ w' = w := by
  subst h; exact inRange_q n lo hi w
theorem l00In_qb {n lo hi : Int} {r : Bool} (h : inR n lo hi = r) (w : World) :
    Calls Tryz.prog 84 #[.int .i64 n, .int .i64 lo, .int .i64 hi] w fun e w' => e = .returned (.bool r) ∧ w' = w := by
  subst h; exact l00In_q n lo hi w
/-- old cells and old marks read as before -/
theorem bcell {W w1 : World} (hb : Below W.heap.size W w1) : (∀ b o, b < W.heap.size → w1.cell? ⟨b, o, none⟩ = W.cell? ⟨b, o, none⟩) ∧ (∀ b o, b < W.heap.size → w1.frozen? ⟨b, o, none⟩ = W.frozen? ⟨b, o, none⟩) :=
  ⟨fun b o h => hb.cell (p := ⟨b, o, none⟩) h, fun b o h => hb.frozen (p := ⟨b, o, none⟩) h⟩
theorem below_drewN {B : Nat} {a w : World} (h : Below B a w) (n : Nat) : Below B a (w.drewN n) := ⟨h.os, h.tape, h.output, h.size, h.block⟩
/-- a box of the call's own still holds its cells -/
theorem box_cells {w wX : World} {cs : Array Value} {T : TypeId} (h : Below (w.alloc (.cells cs T)).heap.size (w.alloc (.cells cs T)) wX) (i : Nat) : wX.cell? ⟨w.heap.size, i, none⟩ = cs[i]? := by
  rw [h.cell (p := ⟨w.heap.size, i, none⟩) (by simp)]
  exact World.cell?_alloc_new w cs T i
theorem Below.next {B : Nat} {w w1 w2 : World} (h : Below B w w1) (h2 : Below w1.heap.size w1 w2) (hB : B ≤ w.heap.size) : Below B w w2 := h.trans (h2.mono (Nat.le_trans hB h.size))
theorem Below.nextA {w w1 w2 : World} (h : Below w.heap.size w w1) (h2 : Below w1.heap.size w1 w2) : Below w.heap.size w w2 := h.trans (h2.mono h.size)
theorem Below.boxed {w w1 : World} {o : Obj} (h : Below (w.alloc o).heap.size (w.alloc o) w1) : Below w.heap.size w w1 := ((Below.refl _ _).alloc (Nat.le_refl _) _).trans (h.mono (by simp))
/-- a region that draws its order, whose operations read old cells alone and whose callees lay new memory alone, the values hanging on neither: one walk -/
theorem wp_region_below {P : Program} {id : Nat} {Q : Exit → Act → World → Prop} {a : Act} {w : World} {l : List Oper} (hm : P.follows .mixedOrders = true) (hB : Region.lexB .any l.toArray = true)
    (h : wpQuiet P l.toArray (Below w.heap.size w) (fun a' => ∀ w', Below w.heap.size w w' → Q .normal a' w') l a) : (Code.region id l.toArray true).wp P Q a w :=
  wp_region_quiet (C := Below w.heap.size w) hm hB ((Below.refl w.heap.size w).drew) (by simpa using h)
attribute [irreducible] inR
end Go.Proofs.YtionognmgcabbaaGreat.Base
/- Words for lists of int64 and lists of such lists in memory: read (Rd..), owned by the call (Own..); the laws' functions that compare, mark and ask them. -/
namespace Go.Proofs.YtionognmgcabbaaGreat.Mem
open Go.RowKit Go.Proofs.YtionognmgcabbaaGreat Go.Proofs.YtionognmgcabbaaGreat.Base
set_option linter.unusedVariables false

/-! ### Plain lists -/
theorem getD_ext {α : Type} {xs ys : List α} (d : α) (hl : xs.length = ys.length) (h : ∀ i, i < xs.length → xs.getD i d = ys.getD i d) : xs = ys := by
  apply List.ext_getElem hl
  intro i h1 h2
  have := h i h1
  simpa [List.getD, h1, h2] using this
def marks (k n : Nat) : List Int := (List.range n).map fun i => ((k + i : Nat) : Int)
theorem marks_len (k n : Nat) : (marks k n).length = n := by simp [marks]
theorem marks_getD (k n i : Nat) (h : i < n) : (marks k n).getD i 0 = ((k + i : Nat) : Int) := by simp [marks, h]
theorem marks_succ (k n : Nat) : marks k (n + 1) = marks k n ++ [((k + n : Nat) : Int)] := by simp [marks, List.range_succ]
theorem mixed_set (k i : Nat) (xs : List Int) (h : i < xs.length) : (marks k i ++ xs.drop i).set i ((k + i : Nat) : Int) = marks k (i + 1) ++ xs.drop (i + 1) := by
  rw [List.set_append_right _ _ (by rw [marks_len]; omega), marks_len, Nat.sub_self, List.drop_eq_getElem_cons h, List.set_cons_zero, marks_succ, List.append_assoc]
  rfl
def tot (xss : List (List Int)) : Nat := (xss.map List.length).sum
theorem tot_cons (xs : List Int) (r : List (List Int)) : tot (xs :: r) = xs.length + tot r := by simp [tot]
def mk : Nat → List (List Int) → List (List Int)
  | _, [] => []
  | k, xs :: r => marks k xs.length :: mk (k + xs.length) r
theorem mk_len : ∀ (k : Nat) (xss : List (List Int)), (mk k xss).length = xss.length
  | _, [] => rfl
  | k, xs :: r => by simp [mk, mk_len]
theorem mk_getD : ∀ (k : Nat) (xss : List (List Int)) (i : Nat), i < xss.length → (mk k xss).getD i [] = marks (k + tot (xss.take i)) (xss.getD i []).length
  | _, [], i, h => absurd h (Nat.not_lt_zero i)
  | k, xs :: r, 0, h => by simp [mk, tot]
  | k, xs :: r, i + 1, h => by
    have := mk_getD (k + xs.length) r i (by simpa using h)
    simp only [mk, List.getD_cons_succ, List.take_succ_cons, tot_cons]
    rw [this, Nat.add_assoc]
theorem tot_take_succ : ∀ (xss : List (List Int)) (i : Nat), i < xss.length → tot (xss.take (i + 1)) = tot (xss.take i) + (xss.getD i []).length
  | [], i, h => absurd h (Nat.not_lt_zero i)
  | xs :: r, 0, h => by simp [tot]
  | xs :: r, i + 1, h => by
    have := tot_take_succ r i (by simpa using h)
    simp only [List.take_succ_cons, tot_cons, List.getD_cons_succ]
    rw [this]; omega
theorem tot_take_le (xss : List (List Int)) (i : Nat) : tot (xss.take i) ≤ tot xss := by
  have h : tot xss = tot (xss.take i) + tot (xss.drop i) := by
    conv => lhs; rw [← List.take_append_drop i xss]
    simp [tot, -List.take_append_drop]
  omega
theorem len_le_tot (xss : List (List Int)) (i : Nat) (h : i < xss.length) : (xss.getD i []).length ≤ tot xss := by
  have h1 := tot_take_succ xss i h
  have h2 := tot_take_le xss (i + 1)
  omega

/-! ### Reading -/
/-- the numbers xs lie behind A, in a block below B -/
def RdI (w : World) (B : Nat) (A : Option Addr) (xs : List Int) : Prop :=
  0 < xs.length → ∃ b off, A = some ⟨b, off, none⟩ ∧ b < B ∧ ∀ i, i < xs.length → w.cell? ⟨b, off + i, none⟩ = some (.int .i64 (xs.getD i 0))
/-- the lists xss lie behind A, in blocks below B -/
def RdII (w : World) (B : Nat) (A : Option Addr) (xss : List (List Int)) : Prop :=
  0 < xss.length → ∃ b off, A = some ⟨b, off, none⟩ ∧ b < B ∧ ∀ i, i < xss.length → ∃ A' c, w.cell? ⟨b, off + i, none⟩ = some (.slice A' (xss.getD i []).length c) ∧ RdI w B A' (xss.getD i [])
theorem RdI.below {w w' : World} {B C : Nat} {A : Option Addr} {xs : List Int} (h : RdI w B A xs) (hb : Below C w w') (hBC : B ≤ C) : RdI w' B A xs := fun h0 => by
  obtain ⟨b, off, e, hlt, hc⟩ := h h0
  exact ⟨b, off, e, hlt, fun i hi => (hb.cell (p := ⟨b, off + i, none⟩) (by show b < C; omega)).trans (hc i hi)⟩
theorem RdI.more {w : World} {B C : Nat} {A : Option Addr} {xs : List Int} (h : RdI w B A xs) (hBC : B ≤ C) : RdI w C A xs := fun h0 => by
  obtain ⟨b, off, e, hlt, hc⟩ := h h0
  exact ⟨b, off, e, by omega, hc⟩
theorem RdII.below {w w' : World} {B C : Nat} {A : Option Addr} {xss : List (List Int)} (h : RdII w B A xss) (hb : Below C w w') (hBC : B ≤ C) : RdII w' B A xss := fun h0 => by
  obtain ⟨b, off, e, hlt, hc⟩ := h h0
  refine ⟨b, off, e, hlt, fun i hi => ?_⟩
  obtain ⟨A', c, h1, h2⟩ := hc i hi
  exact ⟨A', c, (hb.cell (p := ⟨b, off + i, none⟩) (by show b < C; omega)).trans h1, h2.below hb hBC⟩
theorem RdII.more {w : World} {B C : Nat} {A : Option Addr} {xss : List (List Int)} (h : RdII w B A xss) (hBC : B ≤ C) : RdII w C A xss := fun h0 => by
  obtain ⟨b, off, e, hlt, hc⟩ := h h0
  refine ⟨b, off, e, by omega, fun i hi => ?_⟩
  obtain ⟨A', c, h1, h2⟩ := hc i hi
  exact ⟨A', c, h1, h2.more hBC⟩
theorem RdI.drewN {w : World} {B : Nat} {A : Option Addr} {xs : List Int} (h : RdI w B A xs) (n : Nat) : RdI (w.drewN n) B A xs := h.below (below_drewN (Below.refl B w) n) (Nat.le_refl _)
theorem RdII.drewN {w : World} {B : Nat} {A : Option Addr} {xs : List (List Int)} (h : RdII w B A xs) (n : Nat) : RdII (w.drewN n) B A xs := h.below (below_drewN (Below.refl B w) n) (Nat.le_refl _)

/-- a world that parts from w in draws alone -/
def Drawn (w w' : World) : Prop := ∃ m, w' = w.drewN m
theorem Drawn.refl (w : World) : Drawn w w := ⟨0, rfl⟩
theorem Drawn.next {w w' : World} (h : Drawn w w') (n : Nat) : Drawn w (w'.drewN n) := by
  obtain ⟨m, rfl⟩ := h
  exact ⟨m + n, by rw [World.drewN_drewN]⟩
theorem Drawn.below {B : Nat} {w w' : World} (h : Drawn w w') : Below B w w' := by
  obtain ⟨m, rfl⟩ := h
  exact below_drewN (Below.refl _ _) m

/-! ### Two lists compared -/
set_option maxHeartbeats 1000000 in
theorem eqI_yes (A A' : Option Addr) (c c' B B' : Nat) (xs : List Int) (w : World) (hx : RdI w B A xs) (hy : RdI w B' A' xs) (hm : xs.length ≤ 1099511627776) :
    Calls Tryz.prog 26 #[.slice A xs.length c, .slice A' xs.length c'] w fun e w' => e = .returned (.bool true) ∧ ∃ n, w' = w.drewN n := by
  go_enter Tryz.func26, Tryz.ntmps26
  go_wp2
  go_loopw [5] (fun i wr => ∃ (k m : Nat), k ≤ xs.length ∧ i = .int .i64 k ∧ wr = w.drewN m) (fun i _ => xs.length - (intOf i).toNat)
  case atStart => exact ⟨0, 0, Nat.zero_le _, rfl, rfl⟩
  case round =>
    obtain ⟨k, m, hk, rfl, rfl⟩ := hrel
    by_cases hlt : k < xs.length
    · obtain ⟨b, off, rfl, _, h1⟩ := hx (by omega)
      obtain ⟨b', off', rfl, _, h2⟩ := hy (by omega)
      have g1 := h1 k hlt
      have g2 := h2 k hlt
      clear h1 h2 hx hy
      go_wp2
      go_quiet (fail)
      go_wp2
      go_roundw
      case rel => exact ⟨k + 1, _, by omega, by go_num, rfl⟩
      case measure => simp [intOf]; omega
    · clear hx hy
      go_wp2
      go_ret
      exact ⟨rfl, _, rfl⟩
theorem eqI_q (A A' : Option Addr) (c c' B B' : Nat) (xs : List Int) (w : World) (hx : RdI w B A xs) (hy : RdI w B' A' xs) (hm : xs.length ≤ 1099511627776) (n : Nat) :
    Calls Tryz.prog 26 #[.slice A xs.length c, .slice A' xs.length c'] (w.drewN n) fun e w' => e = .returned (.bool true) ∧ ∃ n, w' = w.drewN n :=
  (eqI_yes A A' c c' B B' xs (w.drewN n) (hx.drewN n) (hy.drewN n) hm).mono fun _ _ ⟨h1, k, h2⟩ => ⟨h1, n + k, by rw [h2, World.drewN_drewN]⟩
/-! ### A list asked for its marks -/
set_option maxHeartbeats 1000000 in
theorem heldI_yes (A : Option Addr) (c B k n : Nat) (w : World) (hx : RdI w B A (marks k n)) (hm : k + n ≤ 1099511627776) :
    Calls Tryz.prog 32 #[.slice A n c, .int .i64 k] w fun e w' => e = .returned (.int .i64 ((k + n : Nat) : Int)) ∧ w = w' := by
  have hx' : 0 < n → ∃ b off, A = some ⟨b, off, none⟩ ∧ ∀ i, i < n → w.cell? ⟨b, off + i, none⟩ = some (.int .i64 ((k : Int) + (i : Int))) := fun h => by
    obtain ⟨b, off, e, _, h1⟩ := hx (by rw [marks_len]; exact h)
    refine ⟨b, off, e, fun i hi => ?_⟩
    have := h1 i (by rw [marks_len]; exact hi)
    rw [marks_getD k n i hi] at this
    simpa using this
  clear hx
  go_enter Tryz.func32, Tryz.ntmps32
  go_wp2
  go_loop [1, 5] (fun q i => ∃ j : Nat, j ≤ n ∧ i = .int .i64 j ∧ q = .int .i64 ((k : Int) + (j : Int))) (fun _ i => n - (intOf i).toNat)
  case atStart => exact ⟨0, Nat.zero_le _, rfl, by simp⟩
  case round =>
    obtain ⟨j, hj, rfl, rfl⟩ := hrel
    by_cases hlt : j < n
    · obtain ⟨b, off, rfl, h1⟩ := hx' (by omega)
      have g1 := h1 j hlt
      clear h1 hx'
      go_wp2
      go_round
      case rel => exact ⟨j + 1, by omega, by go_num, by go_num⟩
      case measure => simp [intOf]; omega
    · clear hx'
      go_wp2
      go_ret
      exact ⟨ret_int (by omega), rfl⟩
/-! ### Lists of the call's own -/
def ints (xs : List Int) : List Value := xs.map (Value.int .i64)
theorem ints_len (xs : List Int) : (ints xs).length = xs.length := by simp [ints]
theorem ints_get (xs : List Int) (i : Nat) (h : i < xs.length) : (ints xs)[i]? = some (.int .i64 (xs.getD i 0)) := by simp [ints, List.getD, h]
theorem ints_one (xs : List Int) : ∀ u ∈ ints xs, u.oneCell' = true := by
  intro u hu
  simp only [ints, List.mem_map] at hu
  obtain ⟨x, _, rfl⟩ := hu
  rfl
/-- the list xs is the call's own, in a block from B on -/
def OwnI (w : World) (B : Nat) (u : Value) (xs : List Int) : Prop := w.ownsRow B 2 1 u xs.length (ints xs)
/-- the lists xss are the call's own, in blocks from B on that all differ -/
structure OwnII (w : World) (B : Nat) (v : Value) (xss : List (List Int)) (us : List Value) : Prop where
  len : us.length = xss.length
  outer : w.ownsRow B 41 1 v xss.length us
  inner : ∀ i, i < xss.length → OwnI w B (us.getD i undef) (xss.getD i [])
  apart : ∀ i j g, i < j → j < xss.length → (us.getD i undef).ownBlock = some g → (us.getD j undef).ownBlock ≠ some g
theorem ownsRow_form {w : World} {base : Nat} {e : TypeId} {size n : Nat} {v : Value} {xs : List Value} (h : w.ownsRow base e size v n xs) : ∃ A c, v = .slice A n c ∧ (0 < n → ∃ g, A = some ⟨g, 0, none⟩ ∧ base ≤ g ∧ g < w.heap.size) := by
  rcases h.2 with ⟨rfl, rfl⟩ | ⟨g, cap, cur, rfl, hb, hh, _⟩
  · exact ⟨none, 0, rfl, fun h => absurd h (Nat.lt_irrefl 0)⟩
  · refine ⟨some ⟨g, 0, none⟩, cap, rfl, fun _ => ⟨g, rfl, hb, ?_⟩⟩
    rcases Nat.lt_or_ge g w.heap.size with hlt | hge
    · exact hlt
    · rw [Array.getElem?_eq_none hge] at hh; cases hh
theorem ownsRow_below {w w' : World} {base : Nat} {e : TypeId} {size n : Nat} {v : Value} {xs : List Value} (h : w.ownsRow base e size v n xs) (hb : Below w.heap.size w w') : w'.ownsRow base e size v n xs := by
  refine ⟨h.1, ?_⟩
  rcases h.2 with h0 | ⟨g, cap, cur, rfl, h1, hh, h2⟩
  · exact .inl h0
  · have hlt : g < w.heap.size := by
      rcases Nat.lt_or_ge g w.heap.size with hlt | hge
      · exact hlt
      · rw [Array.getElem?_eq_none hge] at hh; cases hh
    exact .inr ⟨g, cap, cur, rfl, h1, (hb.block g hlt).trans hh, h2⟩
theorem ownsRow_base {w : World} {base base' : Nat} {e : TypeId} {size n : Nat} {v : Value} {xs : List Value} (h : w.ownsRow base e size v n xs) (hb : base' ≤ base) : w.ownsRow base' e size v n xs := by
  refine ⟨h.1, ?_⟩
  rcases h.2 with h0 | ⟨g, cap, cur, rfl, h1, h2⟩
  · exact .inl h0
  · exact .inr ⟨g, cap, cur, rfl, by omega, h2⟩
theorem OwnI.rd {w : World} {B n c : Nat} {A : Option Addr} {xs : List Int} (h : OwnI w B (.slice A n c) xs) : RdI w w.heap.size A xs := fun h0 => by
  obtain ⟨A', c', e, hf⟩ := ownsRow_form h
  injection e with e1 e2 e3
  subst e1 e2 e3
  obtain ⟨g, rfl, _, hlt⟩ := hf h0
  refine ⟨g, 0, rfl, hlt, fun i hi => ?_⟩
  rw [Nat.zero_add, World.ownsRow.cellAt h i (by omega), ints_get xs i hi]
theorem OwnI.form {w : World} {B : Nat} {u : Value} {xs : List Int} (h : OwnI w B u xs) : ∃ A c, u = .slice A xs.length c ∧ (0 < xs.length → ∃ g, A = some ⟨g, 0, none⟩ ∧ B ≤ g ∧ g < w.heap.size) := ownsRow_form h
theorem OwnII.form {w : World} {B : Nat} {v : Value} {xss : List (List Int)} {us : List Value} (h : OwnII w B v xss us) : ∃ A c, v = .slice A xss.length c ∧ (0 < xss.length → ∃ g, A = some ⟨g, 0, none⟩ ∧ B ≤ g ∧ g < w.heap.size) := ownsRow_form h.outer
theorem OwnII.rd {w : World} {B n c : Nat} {A : Option Addr} {xss : List (List Int)} {us : List Value} (h : OwnII w B (.slice A n c) xss us) : RdII w w.heap.size A xss := fun h0 => by
  obtain ⟨A', c', e, hf⟩ := h.form
  injection e with e1 e2 e3
  subst e1 e2 e3
  obtain ⟨g, rfl, _, hlt⟩ := hf h0
  refine ⟨g, 0, rfl, hlt, fun i hi => ?_⟩
  have hi' := h.inner i hi
  obtain ⟨A2, c2, e2, _⟩ := hi'.form
  rw [e2] at hi'
  refine ⟨A2, c2, ?_, hi'.rd⟩
  rw [Nat.zero_add, World.ownsRow.cellAt h.outer i (by omega), ← e2]
  have hl : i < us.length := by rw [h.len]; exact hi
  simp [List.getD, hl]
theorem OwnI.below {w w' : World} {B : Nat} {u : Value} {xs : List Int} (h : OwnI w B u xs) (hb : Below w.heap.size w w') : OwnI w' B u xs := ownsRow_below h hb
theorem OwnII.below {w w' : World} {B : Nat} {v : Value} {xss : List (List Int)} {us : List Value} (h : OwnII w B v xss us) (hb : Below w.heap.size w w') : OwnII w' B v xss us :=
  ⟨h.len, ownsRow_below h.outer hb, fun i hi => (h.inner i hi).below hb, h.apart⟩

/-! ### A list marked -/
theorem grown_trans {a b c : World} {row : Option Nat} (h : a.grownBy b row) (k : b.grownBy c row) : a.grownBy c row :=
  ⟨k.os.trans h.os, k.tape.trans h.tape, k.output.trans h.output, Nat.le_trans h.size k.size, fun i hi hne => (k.block i (Nat.lt_of_lt_of_le hi h.size) hne).trans (h.block i hi hne)⟩
theorem ints_set (xs : List Int) (i : Nat) (x : Int) : (ints xs).set i (.int .i64 x) = ints (xs.set i x) := by simp [ints, List.map_set]
def MarkRel (B k n : Nat) (A : Option Addr) (c : Nat) (xs : List Int) (w : World) (q i : Value) (wr : World) : Prop :=
  ∃ j : Nat, j ≤ n ∧ i = .int .i64 (j : Int) ∧ q = .int .i64 ((k : Int) + (j : Int)) ∧ wr.ownsRow B 2 1 (.slice A n c) n (ints (marks k j ++ xs.drop j)) ∧ w.grownBy wr (Value.slice A n c).ownBlock
theorem MarkRel.next {B k n j c g : Nat} {xs : List Int} {w wr : World} (hn : xs.length = n) (hj : j < n)
    (h : wr.ownsRow B 2 1 (.slice (some ⟨g, 0, none⟩) n c) n (ints (marks k j ++ xs.drop j))) (hg : w.grownBy wr (Value.slice (some ⟨g, 0, none⟩) n c).ownBlock) :
    MarkRel B k n (some ⟨g, 0, none⟩) c xs w (.int .i64 ((k : Int) + (j : Int) + 1)) (.int .i64 ((j : Int) + 1)) (wr.setCell ⟨g, j, none⟩ (.int .i64 ((k : Int) + (j : Int)))) := by
  obtain ⟨h1, h2⟩ := h.stored j (.int .i64 ((k : Int) + (j : Int)))
  refine ⟨j + 1, hj, by simp, by simp [Int.add_assoc], ?_, grown_trans hg h2⟩
  rw [ints_set, show ((k : Int) + (j : Int)) = ((k + j : Nat) : Int) by simp, mixed_set k j xs (by omega)] at h1
  exact h1
set_option maxHeartbeats 1000000 in
theorem markI_any (A : Option Addr) (c B k n : Nat) (xs : List Int) (w : World) (hn : xs.length = n) (hx : w.ownsRow B 2 1 (.slice A n c) n (ints xs)) (hm : k + n ≤ 1099511627776) :
    Calls Tryz.prog 31 #[.slice A n c, .int .i64 k] w fun e w' => e = .returned (.int .i64 ((k + n : Nat) : Int)) ∧ w'.ownsRow B 2 1 (.slice A n c) n (ints (marks k n)) ∧ w.grownBy w' (Value.slice A n c).ownBlock := by
  go_enter Tryz.func31, Tryz.ntmps31
  go_wp2
  go_loopw [1, 5] (fun q i wr => MarkRel B k n A c xs w q i wr) (fun _ i _ => n - (intOf i).toNat)
  case atStart => exact ⟨0, Nat.zero_le _, rfl, by simp, by simpa [marks] using hx, World.grownBy.refl w _⟩
  case round =>
    obtain ⟨j, hj, rfl, rfl, hrow, hg⟩ := hrel
    by_cases hlt : j < n
    · obtain ⟨A', c', e, hf⟩ := ownsRow_form hrow
      injection e with e1 e2 e3
      subst e1 e3
      obtain ⟨g, rfl, _, _⟩ := hf (by omega)
      have hcell := hrow.cellAt j (by omega)
      rw [ints_get _ j (by simp [marks_len]; omega)] at hcell
      have hfz := hrow.frozenAt j
      have HN := Lib.hid (MarkRel.next hn hlt hrow hg)
      clear hrow hg hf hx
      go_wp2
      go_roundw
      case rel => exact HN.out
      case measure => simp [intOf]; omega
    · obtain rfl : j = n := by omega
      have HR := Lib.hid hrow
      have HG := Lib.hid hg
      clear hrow hg hx
      go_wp2
      go_ret
      refine ⟨ret_int (by omega), ?_, HG.out⟩
      have := HR.out
      rw [List.drop_of_length_le (by omega), List.append_nil] at this
      exact this

theorem ownsRow_block {w : World} {base : Nat} {e : TypeId} {size n g : Nat} {v : Value} {xs : List Value} (h : w.ownsRow base e size v n xs) (hg : v.ownBlock = some g) : ∃ cur, w.heap[g]? = some (.cells cur e (0, 0)) ∧ base ≤ g ∧ g < w.heap.size := by
  rcases h.2 with ⟨rfl, _⟩ | ⟨g', cap, cur, rfl, hb, hh, _⟩
  · simp [Value.ownBlock] at hg
  · have : g' = g := by simpa [Value.ownBlock] using hg
    subst this
    refine ⟨cur, hh, hb, ?_⟩
    rcases Nat.lt_or_ge g' w.heap.size with hlt | hge
    · exact hlt
    · rw [Array.getElem?_eq_none hge] at hh; cases hh
/-- rows of different element types share no block -/
theorem own_ne {w : World} {base base' : Nat} {e e' : TypeId} {size n size' n' : Nat} {v v' : Value} {xs xs' : List Value} (h : w.ownsRow base e size v n xs) (h' : w.ownsRow base' e' size' v' n' xs') (hne : e ≠ e') : v.ownBlock = none ∨ v.ownBlock ≠ v'.ownBlock := by
  rcases hv : v.ownBlock with _ | g
  · exact .inl rfl
  · refine .inr fun e1 => ?_
    obtain ⟨cur, h1, _⟩ := ownsRow_block h hv
    obtain ⟨cur', h2, _⟩ := ownsRow_block h' e1.symm
    rw [h1] at h2
    injection h2 with h2
    injection h2 with _ ht
    exact hne ht
theorem grown_below {B : Nat} {w w' : World} {row : Option Nat} (h : w.grownBy w' row) (hr : ∀ g, row = some g → B ≤ g) (hB : B ≤ w.heap.size) : Below B w w' := (Below.refl B w).grown h hB hr
theorem OwnII.mark {w w' : World} {B j : Nat} {v : Value} {xss : List (List Int)} {us : List Value} {ys : List Int} (h : OwnII w B v xss us) (hj : j < xss.length)
    (hl : ys.length = (xss.getD j []).length) (hr : w'.ownsRow B 2 1 (us.getD j undef) ys.length (ints ys)) (hg : w.grownBy w' (us.getD j undef).ownBlock) :
    OwnII w' B v (xss.set j ys) us := by
  refine ⟨by simpa using h.len, ?_, fun i hi => ?_, fun i k g hik hk => h.apart i k g hik (by simpa using hk)⟩
  · rw [List.length_set]
    exact h.outer.kept hg (own_ne h.outer (h.inner j hj) (by decide))
  · rw [List.length_set] at hi
    by_cases e : i = j
    · subst e
      rw [show (xss.set i ys).getD i [] = ys by simp [List.getD, hi]]
      exact hr
    · rw [show (xss.set j ys).getD i [] = xss.getD i [] by simp [List.getD, List.getElem?_set_ne (fun h => e h.symm)]]
      refine World.ownsRow.kept (h.inner i hi) hg ?_
      rcases hv : (us.getD i undef).ownBlock with _ | g
      · exact .inl rfl
      · refine .inr fun e1 => ?_
        rcases Nat.lt_or_gt_of_ne e with hlt | hgt
        · exact h.apart i j g hlt hj hv e1.symm
        · exact h.apart j i g hgt hi e1.symm hv
def mixed (k : Nat) (xss : List (List Int)) (j : Nat) : List (List Int) := (mk k xss).take j ++ xss.drop j
theorem mixed_len (k : Nat) (xss : List (List Int)) (j : Nat) (h : j ≤ xss.length) : (mixed k xss j).length = xss.length := by simp [mixed, mk_len]; omega
theorem mixed_at (k : Nat) (xss : List (List Int)) (j : Nat) (h : j < xss.length) : (mixed k xss j).getD j [] = xss.getD j [] := by
  have hl : ((mk k xss).take j).length = j := by simp [mk_len]; omega
  simp [mixed, List.getD, List.getElem?_append_right (Nat.le_of_eq hl), hl]
theorem mixed_succ (k : Nat) (xss : List (List Int)) (j : Nat) (h : j < xss.length) : (mixed k xss j).set j (marks (k + tot (xss.take j)) (xss.getD j []).length) = mixed k xss (j + 1) := by
  have hl : ((mk k xss).take j).length = j := by simp [mk_len]; omega
  have hl' : j < (mk k xss).length := by rw [mk_len]; exact h
  unfold mixed
  rw [List.set_append_right _ _ (Nat.le_of_eq hl), hl, Nat.sub_self, List.drop_eq_getElem_cons h, List.set_cons_zero, List.take_succ_eq_append_getElem hl', List.append_assoc]
  congr 1
  have := mk_getD k xss j h
  rw [List.getD, List.getElem?_eq_getElem hl'] at this
  simp only [Option.getD_some] at this
  rw [this]; rfl
theorem mixed_zero (k : Nat) (xss : List (List Int)) : mixed k xss 0 = xss := by simp [mixed]
theorem mixed_end (k : Nat) (xss : List (List Int)) : mixed k xss xss.length = mk k xss := by
  unfold mixed
  rw [List.drop_length, List.append_nil, List.take_of_length_le (by rw [mk_len]; exact Nat.le_refl _)]
/-- blocks of other elements than numbers are as before -/
def NotInts (w w' : World) : Prop := ∀ (g : Nat) (cur : Array Value) (t : TypeId), w.heap[g]? = some (.cells cur t (0, 0)) → t ≠ 2 → w'.heap[g]? = some (.cells cur t (0, 0))
theorem NotInts.refl (w : World) : NotInts w w := fun _ _ _ h _ => h
theorem NotInts.trans {a b c : World} (h : NotInts a b) (k : NotInts b c) : NotInts a c := fun g cur t q ht => k g cur t (h g cur t q ht) ht
theorem NotInts.grown {w w' : World} {B n size : Nat} {v : Value} {xs : List Value} (hr : w.ownsRow B 2 size v n xs) (h : w.grownBy w' v.ownBlock) : NotInts w w' := fun g cur t hg ht => by
  have hlt : g < w.heap.size := by
    rcases Nat.lt_or_ge g w.heap.size with hlt | hge
    · exact hlt
    · rw [Array.getElem?_eq_none hge] at hg; cases hg
  refine (h.block g hlt fun e => ?_).trans hg
  obtain ⟨cur', h2, _⟩ := ownsRow_block hr (by first | exact e | exact e.symm)
  rw [hg] at h2
  injection h2 with h2
  injection h2 with _ h3
  exact ht h3
/-- blocks from C on are as before -/
def Above (C : Nat) (w w' : World) : Prop := ∀ g, C ≤ g → g < w.heap.size → w'.heap[g]? = w.heap[g]?
theorem Above.refl (C : Nat) (w : World) : Above C w w := fun _ _ _ => rfl
theorem Above.trans {C : Nat} {a b c : World} (h : Above C a b) (k : Above C b c) (hs : a.heap.size ≤ b.heap.size) : Above C a c := fun g h1 h2 => (k g h1 (by omega)).trans (h g h1 h2)
theorem Above.grown {C : Nat} {w w' : World} {row : Option Nat} (h : w.grownBy w' row) (hr : ∀ g, row = some g → g < C) : Above C w w' := fun g h1 h2 =>
  h.block g h2 fun e => by
    have := hr g (by first | exact e | exact e.symm)
    omega
theorem Above.below {C : Nat} {w w' : World} (h : Below w.heap.size w w') : Above C w w' := fun g _ h2 => h.block g h2
theorem ownsRow_above {w w' : World} {B : Nat} {e : TypeId} {size n : Nat} {v : Value} {xs : List Value} (h : w.ownsRow B e size v n xs) (hb : Above B w w') : w'.ownsRow B e size v n xs := by
  refine ⟨h.1, ?_⟩
  rcases h.2 with h0 | ⟨g, cap, cur, rfl, h1, hh, h2⟩
  · exact .inl h0
  · have hlt : g < w.heap.size := by
      rcases Nat.lt_or_ge g w.heap.size with hlt | hge
      · exact hlt
      · rw [Array.getElem?_eq_none hge] at hh; cases hh
    exact .inr ⟨g, cap, cur, rfl, h1, (hb g h1 hlt).trans hh, h2⟩
theorem OwnII.above {w w' : World} {B : Nat} {v : Value} {xss : List (List Int)} {us : List Value} (h : OwnII w B v xss us) (hb : Above B w w') : OwnII w' B v xss us :=
  ⟨h.len, ownsRow_above h.outer hb, fun i hi => ownsRow_above (h.inner i hi) hb, h.apart⟩
/-- what a marking leaves: blocks of other elements, and blocks behind all that are marked -/
structure Marked (us : List Value) (n : Nat) (w w' : World) : Prop where
  not : NotInts w w'
  abv : ∀ C, (∀ i g, i < n → (us.getD i undef).ownBlock = some g → g < C) → Above C w w'
theorem Marked.refl (us : List Value) (n : Nat) (w : World) : Marked us n w w := ⟨NotInts.refl w, fun C _ => Above.refl C w⟩
theorem OwnII.fits {w : World} {B : Nat} {v : Value} {xss : List (List Int)} {us : List Value} (h : OwnII w B v xss us) : ∀ i g, i < xss.length → (us.getD i undef).ownBlock = some g → g < w.heap.size := fun i g hi hg => by
  obtain ⟨_, _, _, h4⟩ := ownsRow_block (h.inner i hi) hg
  exact h4
def MarkRel2 (B k : Nat) (v : Value) (xss : List (List Int)) (us : List Value) (w : World) (q i : Value) (wr : World) : Prop :=
  ∃ j : Nat, j ≤ xss.length ∧ i = .int .i64 (j : Int) ∧ q = .int .i64 ((k + tot (xss.take j) : Nat) : Int) ∧ OwnII wr B v (mixed k xss j) us ∧ Below B w wr ∧ Marked us xss.length w wr
/-! ### A list pushed onto lists of the call's own -/
theorem OwnII.push {wr w1 w2 : World} {B : Nat} {v v' u : Value} {xss : List (List Int)} {us : List Value} {ys : List Int} (h : OwnII wr B v xss us) (h1 : Below wr.heap.size wr w1)
    (hu : w1.ownsRow wr.heap.size 2 1 u ys.length (ints ys)) (hown : w2.ownsRow B 41 1 v' (xss.length + 1) (us ++ [u])) (hg : w1.grownBy w2 v.ownBlock) (hB : B ≤ wr.heap.size) :
    OwnII w2 B v' (xss ++ [ys]) (us ++ [u]) := by
  have ho1 := ownsRow_below h.outer h1
  refine ⟨by simp [h.len], by rw [List.length_append]; exact hown, fun i hi => ?_, fun i j g hij hj hg1 hg2 => ?_⟩
  · rw [List.length_append] at hi
    rcases Nat.lt_or_ge i xss.length with hlt | hge
    · have hl : i < us.length := by rw [h.len]; exact hlt
      rw [show (us ++ [u]).getD i undef = us.getD i undef by simp [List.getD, List.getElem?_append_left hl],
        show (xss ++ [ys]).getD i [] = xss.getD i [] by simp [List.getD, List.getElem?_append_left hlt]]
      have hi1 := (h.inner i hlt).below h1
      exact World.ownsRow.kept hi1 hg (own_ne hi1 ho1 (by decide))
    · obtain rfl : i = xss.length := by simp at hi; omega
      rw [show (us ++ [u]).getD xss.length undef = u by simp [List.getD, ← h.len],
        show (xss ++ [ys]).getD xss.length [] = ys by simp [List.getD]]
      exact World.ownsRow.kept (ownsRow_base hu hB) hg (own_ne hu ho1 (by decide))
  · rw [List.length_append] at hj
    have hlt : i < xss.length := by simp at hj; omega
    have hl : i < us.length := by rw [h.len]; exact hlt
    rw [show (us ++ [u]).getD i undef = us.getD i undef by simp [List.getD, List.getElem?_append_left hl]] at hg1
    rcases Nat.lt_or_ge j xss.length with hj1 | hge
    · have hlj : j < us.length := by rw [h.len]; exact hj1
      rw [show (us ++ [u]).getD j undef = us.getD j undef by simp [List.getD, List.getElem?_append_left hlj]] at hg2
      exact h.apart i j g hij hj1 hg1 hg2
    · obtain rfl : j = xss.length := by simp at hj; omega
      rw [show (us ++ [u]).getD xss.length undef = u by simp [List.getD, ← h.len]] at hg2
      obtain ⟨_, _, _, b1⟩ := ownsRow_block (h.inner i hlt) hg1
      obtain ⟨_, _, b2, _⟩ := ownsRow_block hu hg2
      omega
theorem OwnII.nil (w : World) (B : Nat) : OwnII w B (.slice none 0 0) [] [] :=
  ⟨rfl, World.ownsRow_nil w B _ 1, fun i hi => absurd hi (Nat.not_lt_zero i), fun i j g _ hj => absurd hj (Nat.not_lt_zero j)⟩
/-- 'make' or a literal of length 0 -/
theorem OwnII.lit0 (w : World) {B : Nat} (hB : B ≤ w.heap.size) (c : Array Value) (hc : c.size = 0) : OwnII (w.alloc (.cells c 41)) B (.slice (some ⟨w.heap.size, 0, none⟩) 0 0) [] [] :=
  ⟨rfl, World.ownsRow_made w c 0 hB (Nat.zero_le _) (by simpa using hc), fun i hi => absurd hi (Nat.not_lt_zero i), fun i j g _ hj => absurd hj (Nat.not_lt_zero j)⟩
theorem infoS : (Tryz.prog.info? 41).map (fun i => (i.zero, i.size, i.bytes)) = some (some (.slice none 0 0), 1, 24) := by kernel_rfl
theorem infoI : (Tryz.prog.info? 2).map (fun i => (i.zero, i.size, i.bytes)) = some (some (.int .i64 0), 1, 8) := by kernel_rfl
/-- a literal of numbers, new -/
theorem own_lit (w : World) {B : Nat} (hB : B ≤ w.heap.size) (xs : List Int) (hm : xs.length ≤ maxLen) : (w.alloc (.cells (ints xs).toArray 2)).ownsRow B 2 1 (.slice (some ⟨w.heap.size, 0, none⟩) xs.length xs.length) xs.length (ints xs) := by
  have := World.ownsRow_lit (e := 2) (size := 1) (base := B) w (ints xs).toArray xs.length hB hm (by simp [ints_len])
  simpa using this
theorem news_one (w : World) (u : Value) (t : TypeId) {g : Nat} (hg : g = w.heap.size) : ∀ (j : Nat) (x : Value), [u][j]? = some x → (w.alloc (.cells #[u] t)).cell? ((⟨g, 0, none⟩ : Addr).add j) = some x := by
  subst hg
  intro j x hx
  match j with
  | 0 =>
    have : u = x := by simpa using hx
    subst this
    exact World.cell?_alloc_new w #[u] t 0
  | j + 1 => simp at hx
theorem one_slice {A : Option Addr} {n c : Nat} : ∀ u ∈ [Value.slice A n c], u.oneCell' = true := by
  intro u hu
  simp only [List.mem_singleton] at hu
  subst hu; rfl
theorem one_int {k : IntKind} {n : Int} : ∀ u ∈ [Value.int k n], u.oneCell' = true := by
  intro u hu
  simp only [List.mem_singleton] at hu
  subst hu; rfl

/-! ### Bytes -/
/-- the bytes zs lie behind A, in a block below B -/
def RdB (w : World) (B : Nat) (A : Option Addr) (zs : List Int) : Prop :=
  0 < zs.length → ∃ b off, A = some ⟨b, off, none⟩ ∧ b < B ∧ ∀ i, i < zs.length → w.cell? ⟨b, off + i, none⟩ = some (.int .u8 (zs.getD i 0))
theorem RdB.below {w w' : World} {B C : Nat} {A : Option Addr} {xs : List Int} (h : RdB w B A xs) (hb : Below C w w') (hBC : B ≤ C) : RdB w' B A xs := fun h0 => by
  obtain ⟨b, off, e, hlt, hc⟩ := h h0
  exact ⟨b, off, e, hlt, fun i hi => (hb.cell (p := ⟨b, off + i, none⟩) (by show b < C; omega)).trans (hc i hi)⟩
theorem RdB.more {w : World} {B C : Nat} {A : Option Addr} {xs : List Int} (h : RdB w B A xs) (hBC : B ≤ C) : RdB w C A xs := fun h0 => by
  obtain ⟨b, off, e, hlt, hc⟩ := h h0
  exact ⟨b, off, e, by omega, hc⟩
theorem RdB.drewN {w : World} {B : Nat} {A : Option Addr} {xs : List Int} (h : RdB w B A xs) (n : Nat) : RdB (w.drewN n) B A xs := h.below (below_drewN (Below.refl B w) n) (Nat.le_refl _)
theorem OwnII.base {w : World} {B B' : Nat} {v : Value} {xss : List (List Int)} {us : List Value} (h : OwnII w B v xss us) (hB : B' ≤ B) : OwnII w B' v xss us :=
  ⟨h.len, ownsRow_base h.outer hB, fun i hi => ownsRow_base (h.inner i hi) hB, h.apart⟩
theorem OwnII.setLow {w : World} {B : Nat} {v : Value} {xss : List (List Int)} {us : List Value} (h : OwnII w B v xss us) {a : Addr} (ha : a.block < B) (u : Value) : OwnII (w.setCell a u) B v xss us :=
  ⟨h.len, ownsRow_setCell_below h.outer ha u, fun i hi => ownsRow_setCell_below (h.inner i hi) ha u, h.apart⟩
theorem OwnI_above {w w' : World} {B : Nat} {u : Value} {xs : List Int} (h : OwnI w B u xs) (hb : Above B w w') : OwnI w' B u xs := ownsRow_above h hb
theorem OwnII_above {w w' : World} {B : Nat} {v : Value} {xss : List (List Int)} {us : List Value} (h : OwnII w B v xss us) (hb : Above B w w') : OwnII w' B v xss us := h.above hb
theorem OwnI_rdm {w : World} {B n c : Nat} {A : Option Addr} (h : w.ownsRow B 2 1 (.slice A n c) n (ints (marks 1 n))) : RdI w w.heap.size A (marks 1 n) := by
  have h' : OwnI w B (.slice A n c) (marks 1 n) := by
    unfold OwnI
    rw [marks_len]
    exact h
  exact h'.rd
end Go.Proofs.YtionognmgcabbaaGreat.Mem
/- slices.Reverse on a list of int64 of the call's own. -/
namespace Go.Proofs.YtionognmgcabbaaGreat.Rev
open Go.RowKit Go.Proofs.YtionognmgcabbaaGreat Go.Proofs.YtionognmgcabbaaGreat.Base Go.Proofs.YtionognmgcabbaaGreat.Mem
set_option linter.unusedVariables false

/-- the list with k elements exchanged at each end -/
def revTo (xs : List Int) (k : Nat) : List Int := (List.range xs.length).map fun p => if p < k ∨ xs.length - k ≤ p then xs.getD (xs.length - 1 - p) 0 else xs.getD p 0
theorem revTo_len (xs : List Int) (k : Nat) : (revTo xs k).length = xs.length := by simp [revTo]
theorem revTo_get (xs : List Int) (k p : Nat) (h : p < xs.length) : (revTo xs k).getD p 0 = if p < k ∨ xs.length - k ≤ p then xs.getD (xs.length - 1 - p) 0 else xs.getD p 0 := by simp [revTo, h]
theorem revTo_zero (xs : List Int) : revTo xs 0 = xs := by
  refine getD_ext 0 (revTo_len xs 0) fun i hi => ?_
  rw [revTo_len] at hi
  rw [revTo_get xs 0 i hi, if_neg (by omega)]
theorem revTo_done (xs : List Int) (k : Nat) (h : xs.length ≤ 2 * k + 1) : revTo xs k = xs.reverse := by
  refine getD_ext 0 (by rw [revTo_len, List.length_reverse]) fun i hi => ?_
  rw [revTo_len] at hi
  rw [revTo_get xs k i hi]
  have hr : xs.reverse.getD i 0 = xs.getD (xs.length - 1 - i) 0 := by simp [List.getD, List.getElem?_reverse hi]
  rw [hr]
  by_cases hc : i < k ∨ xs.length - k ≤ i
  · rw [if_pos hc]
  · rw [if_neg hc, show xs.length - 1 - i = i by omega]
theorem revTo_succ (xs : List Int) (k : Nat) (h : 2 * k + 1 < xs.length) :
    ((revTo xs k).set k ((revTo xs k).getD (xs.length - 1 - k) 0)).set (xs.length - 1 - k) ((revTo xs k).getD k 0) = revTo xs (k + 1) := by
  refine getD_ext 0 (by simp [revTo_len]) fun i hi => ?_
  simp only [List.length_set, revTo_len] at hi
  rw [revTo_get xs (k + 1) i hi]
  have e1 : (revTo xs k).getD (xs.length - 1 - k) 0 = xs.getD (xs.length - 1 - k) 0 := by rw [revTo_get _ _ _ (by omega), if_neg (by omega)]
  have e2 : (revTo xs k).getD k 0 = xs.getD k 0 := by rw [revTo_get _ _ _ (by omega), if_neg (by omega)]
  rw [e1, e2]
  by_cases h1 : i = xs.length - 1 - k
  · subst h1
    rw [if_pos (by omega), show xs.length - 1 - (xs.length - 1 - k) = k by omega]
    simp [List.getD, revTo_len, hi]
  · by_cases h2 : i = k
    · subst h2
      rw [if_pos (by omega)]
      simp [List.getD, revTo_len, hi, show ¬ xs.length - 1 - i = i from fun e => h1 e.symm]
    · have e3 : (((revTo xs k).set k (xs.getD (xs.length - 1 - k) 0)).set (xs.length - 1 - k) (xs.getD k 0)).getD i 0 = (revTo xs k).getD i 0 := by
        simp [List.getD, show ¬ xs.length - 1 - k = i from fun e => h1 e.symm, show ¬ k = i from fun e => h2 e.symm]
      rw [e3, revTo_get xs k i hi]
      by_cases hc : i < k ∨ xs.length - k ≤ i
      · rw [if_pos hc, if_pos (by omega)]
      · rw [if_neg hc, if_neg (by omega)]

def RevRel (B g c : Nat) (xs : List Int) (w : World) (iv jv : Value) (wr : World) : Prop :=
  ∃ k : Nat, 2 * k ≤ xs.length ∧ iv = .int .i64 (k : Int) ∧ jv = .int .i64 ((xs.length : Int) - 1 - (k : Int)) ∧ wr.ownsRow B 2 1 (.slice (some ⟨g, 0, none⟩) xs.length c) xs.length (ints (revTo xs k)) ∧ w.grownBy wr (some g)
theorem RevRel.next {B g c k : Nat} {xs : List Int} {w wr wx : World} (hk : 2 * k + 1 < xs.length) (h : wr.ownsRow B 2 1 (.slice (some ⟨g, 0, none⟩) xs.length c) xs.length (ints (revTo xs k))) (hg : w.grownBy wr (some g))
    (hx : wx.heap = ((wr.setCell ⟨g, k, none⟩ (.int .i64 ((revTo xs k).getD (xs.length - 1 - k) 0))).setCell ⟨g, xs.length - 1 - k, none⟩ (.int .i64 ((revTo xs k).getD k 0))).heap) (hx1 : wx.os = wr.os) (hx2 : wx.tape = wr.tape) (hx3 : wx.output = wr.output) :
    RevRel B g c xs w (.int .i64 ((k : Int) + 1)) (.int .i64 ((xs.length : Int) - 1 - (k : Int) - 1)) wx := by
  obtain ⟨s1, g1⟩ := h.stored k (.int .i64 ((revTo xs k).getD (xs.length - 1 - k) 0))
  obtain ⟨s2, g2⟩ := s1.stored (xs.length - 1 - k) (.int .i64 ((revTo xs k).getD k 0))
  rw [ints_set, ints_set, revTo_succ xs k hk] at s2
  have g3 := grown_trans hg (grown_trans g1 g2)
  refine ⟨k + 1, by omega, by simp, by congr 1; simp; omega, ?_, ?_⟩
  · obtain ⟨a1, a2⟩ := s2
    refine ⟨a1, ?_⟩
    rcases a2 with h0 | ⟨g', cap, cur, b1, b2, b3, b4⟩
    · exact .inl h0
    · exact .inr ⟨g', cap, cur, b1, b2, by rw [hx]; exact b3, b4⟩
  · exact ⟨hx1.trans hg.os, hx2.trans hg.tape, hx3.trans hg.output, by rw [hx]; exact g3.size, fun i hi hne => by rw [hx]; exact g3.block i hi hne⟩
end Go.Proofs.YtionognmgcabbaaGreat.Rev
/- allIn: whether all numbers of a list lie from one number to another; lengths. -/
namespace Go.Proofs.YtionognmgcabbaaGreat.AllIn
open Go.RowKit Go.Proofs.YtionognmgcabbaaGreat Go.Proofs.YtionognmgcabbaaGreat.Base Go.Proofs.YtionognmgcabbaaGreat.Mem
set_option linter.unusedVariables false

def allInB (xs : List Int) (lo hi : Int) : Bool := xs.all fun x => inR x lo hi
theorem allInB_true {xs : List Int} {lo hi : Int} (h : allInB xs lo hi = true) (i : Nat) (hi' : i < xs.length) : lo ≤ xs.getD i 0 ∧ xs.getD i 0 ≤ hi := by
  have := List.all_eq_true.1 h (xs.getD i 0) (by simp [List.getD, hi'])
  exact inR_true this
theorem allInB_of {xs : List Int} {lo hi : Int} (h : ∀ i, i < xs.length → inR (xs.getD i 0) lo hi = true) : allInB xs lo hi = true := by
  refine List.all_eq_true.2 fun x hx => ?_
  obtain ⟨i, hi', rfl⟩ := List.getElem_of_mem hx
  have := h i hi'
  simpa [List.getD, hi'] using this
theorem allInB_no {xs : List Int} {lo hi : Int} {i : Nat} (h : i < xs.length) (hx : inR (xs.getD i 0) lo hi = false) : allInB xs lo hi = false := by
  cases h' : allInB xs lo hi
  · rfl
  · have := List.all_eq_true.1 h' (xs.getD i 0) (by simp [List.getD, h])
    rw [hx] at this; exact this.symm

theorem lenI_any (A : Option Addr) (n c : Nat) (w : World) (h : n ≤ 9223372036854775807) :
    Calls Tryz.prog 125 #[.slice A n c] w fun e w' => e = .returned (.int .i64 (n : Int)) ∧ w = w' := by
  go_enter Tryz.func125, Tryz.ntmps125
  go_wp2
  go_ret
  exact ⟨rfl, rfl⟩

theorem closure_any (b0 b1 : Nat) (x lo hi : Int) (w : World) (h0 : w.cell? ⟨b0, 0, none⟩ = some (.int .i64 lo)) (h1 : w.cell? ⟨b1, 0, none⟩ = some (.int .i64 hi)) :
    Calls Tryz.prog 168 #[.int .i64 x, .pointer (some ⟨b0, 0, none⟩), .pointer (some ⟨b1, 0, none⟩)] w fun e w' => e = .returned (.bool (!inR x lo hi)) ∧ w = w' := by
  go_enter Tryz.func168, Tryz.ntmps168
  go_wp2_with (go_at_call 90; refine (inRange_any _ _ _ _).mono ?_; rintro e w' ⟨rfl, rfl⟩)
  go_ret
  exact ⟨rfl, rfl⟩
def IdxRet (b : Bool) (w : World) (e : Ending) (w' : World) : Prop := ∃ r : Int, e = .returned (.int .i64 r) ∧ ((r = -1 ∧ b = true) ∨ (0 ≤ r ∧ b = false)) ∧ w = w'
set_option maxHeartbeats 400000 in
theorem index_any (A : Option Addr) (c B b0 b1 : Nat) (xs : List Int) (lo hi : Int) (w : World) (hx : RdI w B A xs) (hm : xs.length ≤ 9223372036854775807) (h0 : w.cell? ⟨b0, 0, none⟩ = some (.int .i64 lo)) (h1 : w.cell? ⟨b1, 0, none⟩ = some (.int .i64 hi)) :
    Calls Tryz.prog 186 #[.slice A xs.length c, .func (Fn.func 168) #[] #[.pointer (some ⟨b0, 0, none⟩), .pointer (some ⟨b1, 0, none⟩)]] w (IdxRet (allInB xs lo hi) w) := by
  go_enter Tryz.func186, Tryz.ntmps186
  go_wp2
  go_loop [5, 8] (fun _ i => ∃ k : Nat, k ≤ xs.length ∧ i = .int .i64 (k : Int) ∧ Hid (∀ j, j < k → inR (xs.getD j 0) lo hi = true)) (fun _ i => xs.length - (intOf i).toNat)
  case atStart => exact ⟨0, Nat.zero_le _, rfl, Lib.hid fun j hj => absurd hj (Nat.not_lt_zero j)⟩
  case round =>
    obtain ⟨k, hk, rfl, hall⟩ := hrel
    by_cases hlt : k < xs.length
    · obtain ⟨b, off, rfl, _, hc⟩ := hx (by omega)
      have g := hc k hlt
      clear hc hx
      cases hr : inR (xs.getD k 0) lo hi
      · have hf := Lib.hid (allInB_no hlt hr)
        generalize xs.getD k 0 = x at *
        go_wp2_with (go_at_call 168; refine (closure_any _ _ _ _ _ _ h0 h1).mono ?_; rintro e w' ⟨rfl, rfl⟩)
        go_ret
        exact ⟨(k : Int), rfl, .inr ⟨by omega, hf.out⟩, rfl⟩
      · have hn : Hid (∀ j, j < k + 1 → inR (xs.getD j 0) lo hi = true) := Lib.hid fun j hj => by
          rcases Nat.lt_or_ge j k with h | h
          · exact hall.out j h
          · obtain rfl : j = k := by omega
            exact hr
        clear hall
        generalize xs.getD k 0 = x at *
        go_wp2_with (go_at_call 168; refine (closure_any _ _ _ _ _ _ h0 h1).mono ?_; rintro e w' ⟨rfl, rfl⟩)
        go_round
        case rel => exact ⟨k + 1, by omega, by go_num, hn⟩
        case measure => simp [intOf]; omega
    · obtain rfl : k = xs.length := by omega
      clear hx
      go_wp2
      go_ret
      exact ⟨-1, rfl, .inl ⟨rfl, allInB_of hall.out⟩, rfl⟩
theorem contains_any (A : Option Addr) (c B b0 b1 : Nat) (xs : List Int) (lo hi : Int) (w : World) (hx : RdI w B A xs) (hm : xs.length ≤ 9223372036854775807) (h0 : w.cell? ⟨b0, 0, none⟩ = some (.int .i64 lo)) (h1 : w.cell? ⟨b1, 0, none⟩ = some (.int .i64 hi)) :
    Calls Tryz.prog 167 #[.slice A xs.length c, .func (Fn.func 168) #[] #[.pointer (some ⟨b0, 0, none⟩), .pointer (some ⟨b1, 0, none⟩)]] w fun e w' => e = .returned (.bool (!allInB xs lo hi)) ∧ w = w' := by
  have hc := Lib.hid (index_any A c B b0 b1 xs lo hi w hx hm h0 h1)
  clear hx
  go_enter Tryz.func167, Tryz.ntmps167
  go_wp2_with fail
  refine hc.out.mono ?_
  rintro e w' ⟨r, rfl, ⟨rfl, hb⟩ | ⟨hr, hb⟩, rfl⟩
  · go_wp2
    go_ret
    exact ⟨ret_bool (by simp [hb]), rfl⟩
  · go_wp2
    go_ret
    exact ⟨ret_bool (by simp [hb]), rfl⟩
theorem allIn_any (A : Option Addr) (c B : Nat) (xs : List Int) (lo hi : Int) (w : World) (hx : RdI w B A xs) (hB : B ≤ w.heap.size) (hm : xs.length ≤ 9223372036854775807) :
    Calls Tryz.prog 126 #[.slice A xs.length c, .int .i64 lo, .int .i64 hi] w fun e w' => e = .returned (.bool (allInB xs lo hi)) ∧ Below w.heap.size w w' := by
  have hb : Below w.heap.size w ((w.alloc (.cells #[.int .i64 lo] 2)).alloc (.cells #[.int .i64 hi] 2)) := ((Below.refl _ _).alloc (Nat.le_refl _) _).alloc (by simp) _
  have hx2 := Lib.hid (hx.below hb hB)
  clear hx
  have HB := Lib.hid hb
  clear hb
  go_enter Tryz.func126, Tryz.ntmps126
  go_wp2_with (go_at_call 167; refine (contains_any A c B _ _ xs lo hi _ hx2.out hm (by simp) (by simp)).mono ?_; rintro e w' ⟨rfl, rfl⟩)
  go_ret
  exact ⟨ret_bool (by simp), HB.out⟩
end Go.Proofs.YtionognmgcabbaaGreat.AllIn
/- Plain mathematics of counting the ones of a word by fields (bits.OnesCount64), and of parity. No program in sight. -/
namespace Go.Proofs.YtionognmgcabbaaGreat.PopM
set_option linter.unusedVariables false

/-- the sum of k digits in base B -/
def T (B : Nat) : Nat → Nat → Nat
  | 0, _ => 0
  | k + 1, x => x % B + T B k (x / B)
/-- k digits in base B, each at most m, and no more digits -/
def Fld (B m : Nat) : Nat → Nat → Prop
  | 0, x => x = 0
  | k + 1, x => x % B ≤ m ∧ Fld B m k (x / B)
def mask (B e : Nat) : Nat → Nat
  | 0 => 0
  | k + 1 => e + B * mask B e k
theorem T_zero (B k : Nat) : T B k 0 = 0 := by
  induction k with
  | zero => rfl
  | succ k ih => simp [T, ih]
theorem and_split (j a e C : Nat) (he : e < 2 ^ j) : a &&& (e + 2 ^ j * C) = ((a % 2 ^ j) &&& e) + 2 ^ j * ((a / 2 ^ j) &&& C) := by
  have h := Nat.mod_add_div (a &&& (e + 2 ^ j * C)) (2 ^ j)
  rw [Nat.and_mod_two_pow, Nat.and_div_two_pow, Nat.add_mul_mod_self_left, Nat.mod_eq_of_lt he, Nat.add_mul_div_left _ _ (Nat.two_pow_pos j), Nat.div_eq_of_lt he, Nat.zero_add] at h
  exact h.symm
theorem claim1 : ∀ (k x : Nat), x < 4 ^ k → T 4 k ((x / 2 &&& mask 4 1 k) + (x &&& mask 4 1 k)) = T 2 (2 * k) x ∧ Fld 4 2 k ((x / 2 &&& mask 4 1 k) + (x &&& mask 4 1 k))
  | 0, x, h => by simp [mask, T, Fld]
  | k + 1, x, h => by
    have ih := claim1 k (x / 4) (by rw [Nat.pow_succ] at h; omega)
    have e1 := and_split 2 x 1 (mask 4 1 k) (by decide)
    have e2 := and_split 2 (x / 2) 1 (mask 4 1 k) (by decide)
    simp only [show (2 : Nat) ^ 2 = 4 from rfl, nat_mask1] at e1 e2
    have e3 : x / 2 / 4 = x / 4 / 2 := by omega
    rw [e3] at e2
    have hy : (x / 2 &&& mask 4 1 (k + 1)) + (x &&& mask 4 1 (k + 1)) = (x / 2 % 2 + x % 2) + 4 * ((x / 4 / 2 &&& mask 4 1 k) + (x / 4 &&& mask 4 1 k)) := by
      show (x / 2 &&& (1 + 4 * mask 4 1 k)) + (x &&& (1 + 4 * mask 4 1 k)) = _
      rw [e1, e2]; omega
    rw [hy]
    generalize (x / 4 / 2 &&& mask 4 1 k) + (x / 4 &&& mask 4 1 k) = y at *
    have hm : (x / 2 % 2 + x % 2 + 4 * y) % 4 = x / 2 % 2 + x % 2 := by omega
    have hd : (x / 2 % 2 + x % 2 + 4 * y) / 4 = y := by omega
    refine ⟨?_, ?_⟩
    · show (x / 2 % 2 + x % 2 + 4 * y) % 4 + T 4 k ((x / 2 % 2 + x % 2 + 4 * y) / 4) = x % 2 + (x / 2 % 2 + T 2 (2 * k) (x / 2 / 2))
      rw [hm, hd, ih.1, show x / 2 / 2 = x / 4 by omega]; omega
    · show (x / 2 % 2 + x % 2 + 4 * y) % 4 ≤ 2 ∧ Fld 4 2 k ((x / 2 % 2 + x % 2 + 4 * y) / 4)
      rw [hm, hd]; exact ⟨by omega, ih.2⟩
theorem claim2 : ∀ (k x : Nat), Fld 4 2 (2 * k) x → T 16 k ((x / 4 &&& mask 16 3 k) + (x &&& mask 16 3 k)) = T 4 (2 * k) x ∧ Fld 16 4 k ((x / 4 &&& mask 16 3 k) + (x &&& mask 16 3 k))
  | 0, x, h => by simp [mask, T, Fld]
  | k + 1, x, h => by
    obtain ⟨h1, h2, h3⟩ : x % 4 ≤ 2 ∧ x / 4 % 4 ≤ 2 ∧ Fld 4 2 (2 * k) (x / 4 / 4) := h
    rw [show x / 4 / 4 = x / 16 by omega] at h3
    have ih := claim2 k (x / 16) h3
    have e1 := and_split 4 x 3 (mask 16 3 k) (by decide)
    have e2 := and_split 4 (x / 4) 3 (mask 16 3 k) (by decide)
    simp only [show (2 : Nat) ^ 4 = 16 from rfl, nat_mask2] at e1 e2
    rw [show x / 4 / 16 = x / 16 / 4 by omega] at e2
    have hy : (x / 4 &&& mask 16 3 (k + 1)) + (x &&& mask 16 3 (k + 1)) = (x / 4 % 4 + x % 4) + 16 * ((x / 16 / 4 &&& mask 16 3 k) + (x / 16 &&& mask 16 3 k)) := by
      show (x / 4 &&& (3 + 16 * mask 16 3 k)) + (x &&& (3 + 16 * mask 16 3 k)) = _
      rw [e1, e2]; omega
    rw [hy]
    generalize (x / 16 / 4 &&& mask 16 3 k) + (x / 16 &&& mask 16 3 k) = y at *
    have hm : (x / 4 % 4 + x % 4 + 16 * y) % 16 = x / 4 % 4 + x % 4 := by omega
    have hd : (x / 4 % 4 + x % 4 + 16 * y) / 16 = y := by omega
    refine ⟨?_, ?_⟩
    · show (x / 4 % 4 + x % 4 + 16 * y) % 16 + T 16 k ((x / 4 % 4 + x % 4 + 16 * y) / 16) = x % 4 + (x / 4 % 4 + T 4 (2 * k) (x / 4 / 4))
      rw [hm, hd, ih.1, show x / 4 / 4 = x / 16 by omega]; omega
    · show (x / 4 % 4 + x % 4 + 16 * y) % 16 ≤ 4 ∧ Fld 16 4 k ((x / 4 % 4 + x % 4 + 16 * y) / 16)
      rw [hm, hd]; exact ⟨by omega, ih.2⟩
theorem c3a (x : Nat) (h1 : x % 16 ≤ 4) (h2 : x / 16 % 16 ≤ 4) (h4 : x / 256 % 16 ≤ 4) : (x / 16 + x) / 256 = x / 256 / 16 + x / 256 := by
  obtain ⟨a, ha⟩ : ∃ a, a = x % 16 := ⟨_, rfl⟩
  obtain ⟨b, hb⟩ : ∃ b, b = x / 16 % 16 := ⟨_, rfl⟩
  obtain ⟨e, he⟩ : ∃ e, e = x / 256 % 16 := ⟨_, rfl⟩
  obtain ⟨f, hf⟩ : ∃ f, f = x / 256 / 16 := ⟨_, rfl⟩
  have hx : x = a + 16 * b + 256 * (e + 16 * f) := by omega
  have q1 : x / 16 = b + 16 * (e + 16 * f) := by omega
  have q2 : x / 256 = e + 16 * f := by omega
  have q3 : (e + 16 * f) / 16 = f := by omega
  rw [q1, q2, q3, hx]
  omega
theorem claim3 : ∀ (k x : Nat), Fld 16 4 (2 * k) x → T 256 k ((x / 16 + x) &&& mask 256 15 k) = T 16 (2 * k) x ∧ Fld 256 8 k ((x / 16 + x) &&& mask 256 15 k)
  | 0, x, h => by simp [mask, T, Fld]
  | k + 1, x, h => by
    obtain ⟨h1, h2, h3⟩ : x % 16 ≤ 4 ∧ x / 16 % 16 ≤ 4 ∧ Fld 16 4 (2 * k) (x / 16 / 16) := h
    rw [show x / 16 / 16 = x / 256 by omega] at h3
    have h4 : x / 256 % 16 ≤ 4 := by
      cases k with
      | zero => have h0 : x / 256 = 0 := h3; omega
      | succ k => exact h3.1
    have ih := claim3 k (x / 256) h3
    have e1 := and_split 8 (x / 16 + x) 15 (mask 256 15 k) (by decide)
    simp only [show (2 : Nat) ^ 8 = 256 from rfl, nat_mask4] at e1
    have e2 : (x / 16 + x) / 256 = x / 256 / 16 + x / 256 := c3a x h1 h2 h4
    have e3 : (x / 16 + x) % 256 % 16 = x / 16 % 16 + x % 16 := by omega
    rw [e2, e3] at e1
    have hy : (x / 16 + x) &&& mask 256 15 (k + 1) = (x / 16 % 16 + x % 16) + 256 * ((x / 256 / 16 + x / 256) &&& mask 256 15 k) := e1
    rw [hy]
    generalize (x / 256 / 16 + x / 256) &&& mask 256 15 k = y at *
    have hm : (x / 16 % 16 + x % 16 + 256 * y) % 256 = x / 16 % 16 + x % 16 := by omega
    have hd : (x / 16 % 16 + x % 16 + 256 * y) / 256 = y := by omega
    refine ⟨?_, ?_⟩
    · show (x / 16 % 16 + x % 16 + 256 * y) % 256 + T 256 k ((x / 16 % 16 + x % 16 + 256 * y) / 256) = x % 16 + (x / 16 % 16 + T 16 (2 * k) (x / 16 / 16))
      rw [hm, hd, ih.1, show x / 16 / 16 = x / 256 by omega]; omega
    · show (x / 16 % 16 + x % 16 + 256 * y) % 256 ≤ 8 ∧ Fld 256 8 k ((x / 16 % 16 + x % 16 + 256 * y) / 256)
      rw [hm, hd]; exact ⟨by omega, ih.2⟩
theorem fold (A A2 A3 D : Nat) (h1 : A ≤ 4112) (h2 : A2 ≤ 4112) (h3 : A3 ≤ 4112) (hD : D ≤ 4112) (y4 : Nat) (h : y4 = A + 65536 * (A2 + 65536 * (A3 + 65536 * D))) :
    (y4 + y4 / 65536 + (y4 + y4 / 65536) / 4294967296) % 128 = (A + A2 + A3 + D) % 128 := by
  subst h
  have q1 : (A + 65536 * (A2 + 65536 * (A3 + 65536 * D))) / 65536 = A2 + 65536 * (A3 + 65536 * D) := by omega
  rw [q1]
  have q2 : (A + 65536 * (A2 + 65536 * (A3 + 65536 * D)) + (A2 + 65536 * (A3 + 65536 * D))) / 4294967296 = A3 + D + 65536 * D := by omega
  rw [q2]
  omega
theorem dig {k y : Nat} (h : Fld 256 8 (k + 1) y) : ∃ d y', d ≤ 8 ∧ y = d + 256 * y' ∧ Fld 256 8 k y' ∧ ∀ s, T 256 k y' = s → T 256 (k + 1) y = d + s :=
  ⟨y % 256, y / 256, h.1, by omega, h.2, fun s hs => by show y % 256 + T 256 k (y / 256) = _; rw [hs]⟩
theorem Fld.sum {y : Nat} (h : Fld 256 8 8 y) : y < 1157442765409226769 ∧ (y + y / 256 + (y + y / 256) / 65536 + (y + y / 256 + (y + y / 256) / 65536) / 4294967296) % 128 = T 256 8 y ∧ T 256 8 y ≤ 64 := by
  obtain ⟨d0, y1, b0, e0, h, t0⟩ := dig h
  obtain ⟨d1, y2, b1, e1, h, t1⟩ := dig h
  obtain ⟨d2, y3, b2, e2, h, t2⟩ := dig h
  obtain ⟨d3, y4, b3, e3, h, t3⟩ := dig h
  obtain ⟨d4, y5, b4, e4, h, t4⟩ := dig h
  obtain ⟨d5, y6, b5, e5, h, t5⟩ := dig h
  obtain ⟨d6, y7, b6, e6, h, t6⟩ := dig h
  obtain ⟨d7, y8, b7, e7, h, t7⟩ := dig h
  have h8 : y8 = 0 := h
  have ht := t0 _ (t1 _ (t2 _ (t3 _ (t4 _ (t5 _ (t6 _ (t7 0 rfl)))))))
  clear t0 t1 t2 t3 t4 t5 t6 t7 h
  have hq : y / 256 = y1 := by omega
  have hy4 : y + y / 256 = (d0 + d1 + 256 * (d1 + d2)) + 65536 * ((d2 + d3 + 256 * (d3 + d4)) + 65536 * ((d4 + d5 + 256 * (d5 + d6)) + 65536 * (d6 + d7 + 256 * d7))) := by rw [hq]; omega
  have hf := fold _ _ _ _ (by omega) (by omega) (by omega) (by omega) _ hy4
  rw [hf, ht]
  clear hf ht hy4 hq
  exact ⟨by omega, by omega, by omega⟩
/-- the ones of a word below 2^64 -/
def pop (n : Nat) : Nat := T 2 64 n
def par (n : Nat) : Nat := pop n % 2
def S1 (x : Nat) : Nat := (x / 2 &&& 6148914691236517205) + (x &&& 6148914691236517205)
def S2 (x : Nat) : Nat := (x / 4 &&& 3689348814741910323) + (x &&& 3689348814741910323)
def S3 (x : Nat) : Nat := (x / 16 + x) &&& 1085102592571150095
theorem pop_le {n : Nat} (hn : n < 18446744073709551616) : pop n ≤ 64 ∧ S1 n < 18446744073709551616 ∧ S2 (S1 n) < 7378697629483820647 ∧ S3 (S2 (S1 n)) < 1157442765409226769 ∧
    (S3 (S2 (S1 n)) + S3 (S2 (S1 n)) / 256 + (S3 (S2 (S1 n)) + S3 (S2 (S1 n)) / 256) / 65536 + (S3 (S2 (S1 n)) + S3 (S2 (S1 n)) / 256 + (S3 (S2 (S1 n)) + S3 (S2 (S1 n)) / 256) / 65536) / 4294967296) % 128 = pop n := by
  have m1 : mask 4 1 32 = 6148914691236517205 := by decide
  have m2 : mask 16 3 16 = 3689348814741910323 := by decide
  have m3 : mask 256 15 8 = 1085102592571150095 := by decide
  have c1 := claim1 32 n (by exact hn)
  rw [m1] at c1
  have c2 := claim2 16 (S1 n) c1.2
  rw [m2] at c2
  have c3 := claim3 8 (S2 (S1 n)) c2.2
  rw [m3] at c3
  have c4 := Fld.sum (y := S3 (S2 (S1 n))) c3.2
  have ht : T 256 8 (S3 (S2 (S1 n))) = pop n := c3.1.trans (c2.1.trans c1.1)
  rw [ht] at c4
  refine ⟨c4.2.2, ?_, ?_, c4.1, c4.2.1⟩
  · unfold S1
    have a1 := Nat.and_le_right (n := n / 2) (m := 6148914691236517205)
    have a2 := Nat.and_le_right (n := n) (m := 6148914691236517205)
    omega
  · unfold S2
    have a1 := Nat.and_le_right (n := S1 n / 4) (m := 3689348814741910323)
    have a2 := Nat.and_le_right (n := S1 n) (m := 3689348814741910323)
    omega
theorem xor_bit (a b : Nat) (ha : a < 2) (hb : b < 2) : a ^^^ b = (a + b) % 2 := by
  rcases (show a = 0 ∨ a = 1 by omega) with rfl | rfl <;> rcases (show b = 0 ∨ b = 1 by omega) with rfl | rfl <;> rfl
theorem T2_half (k x : Nat) (h : x < 2 ^ (k + 1)) : T 2 (k + 1) x = x % 2 + T 2 (k + 1) (x / 2) := by
  show x % 2 + T 2 k (x / 2) = _
  have : ∀ (k x : Nat), x < 2 ^ k → T 2 (k + 1) x = T 2 k x := by
    intro k
    induction k with
    | zero => intro x hx; have : x = 0 := by simpa using hx
              subst this; rfl
    | succ k ih =>
      intro x hx
      show x % 2 + T 2 (k + 1) (x / 2) = x % 2 + T 2 k (x / 2)
      rw [ih (x / 2) (by rw [Nat.pow_succ] at hx; omega)]
  rw [this k (x / 2) (by rw [Nat.pow_succ] at h; omega)]
theorem pop_half {x : Nat} (h : x < 18446744073709551616) : pop x = x % 2 + pop (x / 2) := T2_half 63 x h
theorem pop_zero : pop 0 = 0 := T_zero 2 64
theorem par_lt (n : Nat) : par n < 2 := Nat.mod_lt _ (by decide)
end Go.Proofs.YtionognmgcabbaaGreat.PopM
/- Bit operations on numbers that are not negative; the ones of a word; parity. -/
namespace Go.Proofs.YtionognmgcabbaaGreat.Bits
open Go.RowKit Go.Proofs.YtionognmgcabbaaGreat Go.Proofs.YtionognmgcabbaaGreat.Base
set_option linter.unusedVariables false

theorem ofInt_i64 (a : Nat) (ha : a < 9223372036854775808) : (BitVec.ofInt 64 (a : Int)).toNat = a := by
  rw [BitVec.ofInt_natCast, BitVec.toNat_ofNat]; exact Nat.mod_eq_of_lt (by omega)
theorem i64_and_nat (a b : Nat) (ha : a < 9223372036854775808) (hb : b < 9223372036854775808) : bits .and .i64 (a : Int) (b : Int) = ((a &&& b : Nat) : Int) := by
  have hx : a &&& b < 2 ^ 63 := Nat.and_lt_two_pow _ (by omega)
  show IntKind.i64.wrap ((BitVec.ofInt 64 (a : Int) &&& BitVec.ofInt 64 (b : Int)).toNat : Int) = _
  rw [BitVec.toNat_and, ofInt_i64 a ha, ofInt_i64 b hb, IntKind.wrap_i64]
  omega
theorem i64_or_nat (a b : Nat) (ha : a < 9223372036854775808) (hb : b < 9223372036854775808) : bits .or .i64 (a : Int) (b : Int) = ((a ||| b : Nat) : Int) := by
  have hx : a ||| b < 2 ^ 63 := Nat.or_lt_two_pow (by omega) (by omega)
  show IntKind.i64.wrap ((BitVec.ofInt 64 (a : Int) ||| BitVec.ofInt 64 (b : Int)).toNat : Int) = _
  rw [BitVec.toNat_or, ofInt_i64 a ha, ofInt_i64 b hb, IntKind.wrap_i64]
  omega
theorem i64_xor_nat (a b : Nat) (ha : a < 9223372036854775808) (hb : b < 9223372036854775808) : bits .xor .i64 (a : Int) (b : Int) = ((a ^^^ b : Nat) : Int) := by
  have hx : a ^^^ b < 2 ^ 63 := Nat.xor_lt_two_pow (by omega) (by omega)
  show IntKind.i64.wrap ((BitVec.ofInt 64 (a : Int) ^^^ BitVec.ofInt 64 (b : Int)).toNat : Int) = _
  rw [BitVec.toNat_xor, ofInt_i64 a ha, ofInt_i64 b hb, IntKind.wrap_i64]
  omega

theorem w1 (n : Nat) (hn : n < 18446744073709551616) (h : PopM.S1 n < 18446744073709551616) : IntKind.u64.wrap (bits .and .u64 ((n : Int) / 2) 6148914691236517205 + bits .and .u64 (n : Int) 6148914691236517205) = ((PopM.S1 n : Nat) : Int) := by
  have a := u64_and_nat (n / 2) 6148914691236517205 (by omega) (by omega)
  have b := u64_and_nat n 6148914691236517205 hn (by omega)
  rw [show ((n : Int) / 2) = ((n / 2 : Nat) : Int) by omega]
  rw [show (6148914691236517205 : Int) = ((6148914691236517205 : Nat) : Int) from rfl, a, b, IntKind.wrap_u64]
  unfold PopM.S1 at *
  omega
theorem w2 (n : Nat) (hn : n < 18446744073709551616) (h : PopM.S2 n < 7378697629483820647) : IntKind.u64.wrap (bits .and .u64 ((n : Int) / 4) 3689348814741910323 + bits .and .u64 (n : Int) 3689348814741910323) = ((PopM.S2 n : Nat) : Int) := by
  have a := u64_and_nat (n / 4) 3689348814741910323 (by omega) (by omega)
  have b := u64_and_nat n 3689348814741910323 hn (by omega)
  rw [show ((n : Int) / 4) = ((n / 4 : Nat) : Int) by omega]
  rw [show (3689348814741910323 : Int) = ((3689348814741910323 : Nat) : Int) from rfl, a, b, IntKind.wrap_u64]
  unfold PopM.S2 at *
  omega
theorem w3 (n : Nat) (hn : n < 7378697629483820647) : bits .and .u64 (IntKind.u64.wrap ((n : Int) / 16 + (n : Int))) 1085102592571150095 = ((PopM.S3 n : Nat) : Int) := by
  have a := u64_and_nat (n / 16 + n) 1085102592571150095 (by omega) (by omega)
  have e : IntKind.u64.wrap ((n : Int) / 16 + (n : Int)) = ((n / 16 + n : Nat) : Int) := by rw [IntKind.wrap_u64]; omega
  rw [e, show (1085102592571150095 : Int) = ((1085102592571150095 : Nat) : Int) from rfl, a]
  rfl
theorem w4 (n : Nat) (hn : n < 1157442765409226769) : bits .and .i64 (wrap64 (IntKind.u64.wrap (IntKind.u64.wrap (IntKind.u64.wrap ((n : Int) + (n : Int) / 256) + IntKind.u64.wrap ((n : Int) + (n : Int) / 256) / 65536) + IntKind.u64.wrap (IntKind.u64.wrap ((n : Int) + (n : Int) / 256) + IntKind.u64.wrap ((n : Int) + (n : Int) / 256) / 65536) / 4294967296))) 127 =
    (((n + n / 256 + (n + n / 256) / 65536 + (n + n / 256 + (n + n / 256) / 65536) / 4294967296) % 128 : Nat) : Int) := by
  have e1 : IntKind.u64.wrap ((n : Int) + (n : Int) / 256) = ((n + n / 256 : Nat) : Int) := by rw [IntKind.wrap_u64]; omega
  rw [e1]
  have hx : n + n / 256 < 1161964026368821562 := by omega
  generalize n + n / 256 = x at *
  have e2 : IntKind.u64.wrap ((x : Int) + (x : Int) / 65536) = ((x + x / 65536 : Nat) : Int) := by rw [IntKind.wrap_u64]; omega
  rw [e2]
  have hy : x + x / 65536 < 1161981756664180000 := by omega
  generalize x + x / 65536 = y at *
  have e3 : IntKind.u64.wrap ((y : Int) + (y : Int) / 4294967296) = ((y + y / 4294967296 : Nat) : Int) := by rw [IntKind.wrap_u64]; omega
  have hz : y + y / 4294967296 < 1161981757000000000 := by omega
  rw [e3]
  generalize y + y / 4294967296 = z at *
  have e4 : wrap64 (z : Int) = (z : Int) := by simp only [wrap64]; omega
  rw [e4, show (127 : Int) = ((127 : Nat) : Int) from rfl, i64_and_nat z 127 (by omega) (by omega), nat_mask7]

theorem ones_any (n : Nat) (hn : n < 18446744073709551616) (w : World) :
    Calls Tryz.prog 193 #[.int .u64 n] w fun e w' => e = .returned (.int .i64 (PopM.pop n : Nat)) ∧ w = w' := by
  obtain ⟨p0, p1, p2, p3, p4⟩ := PopM.pop_le hn
  have H1 := Lib.hid (w1 n hn p1)
  have H2 := Lib.hid (w2 (PopM.S1 n) p1 p2)
  have H3 := Lib.hid (w3 (PopM.S2 (PopM.S1 n)) p2)
  have H4 := Lib.hid (w4 (PopM.S3 (PopM.S2 (PopM.S1 n))) p3)
  have H5 := Lib.hid p4
  clear p0 p1 p2 p3 p4
  go_enter Tryz.func193, Tryz.ntmps193
  go_wp2
  go_ret
  refine ⟨ret_int ?_, rfl⟩
  rw [H1.out, H2.out, H3.out, H4.out, H5.out]

theorem and1 (x : Nat) (h : x < 9223372036854775808) : bits .and .i64 (x : Int) 1 = ((x % 2 : Nat) : Int) := by
  have := i64_and_nat x 1 h (by omega)
  rw [nat_mask1] at this
  exact this
theorem parity_any (n : Nat) (hn : n < 9223372036854775808) (w : World) :
    Calls Tryz.prog 187 #[.int .i64 n] w fun e w' => e = .returned (.int .i64 (PopM.par n : Nat)) ∧ w = w' := by
  have hp := (PopM.pop_le (n := n) (by omega)).1
  have H := Lib.hid (and1 (PopM.pop n) (by omega))
  go_enter Tryz.func187, Tryz.ntmps187
  go_wp2_with fail
  refine (ones_any n (by omega) _).mono ?_; rintro e w' ⟨rfl, rfl⟩
  go_wp2
  go_ret
  exact ⟨ret_int H.out, rfl⟩
theorem parity_q (n : Nat) (hn : n < 9223372036854775808) (w : World) :
    Calls Tryz.prog 187 #[.int .i64 n] w fun e w' => e = .returned (.int .i64 (PopM.par n : Nat)) ∧ w' = w :=
  (parity_any n hn w).mono fun _ _ h => ⟨h.1, h.2.symm⟩
end Go.Proofs.YtionognmgcabbaaGreat.Bits

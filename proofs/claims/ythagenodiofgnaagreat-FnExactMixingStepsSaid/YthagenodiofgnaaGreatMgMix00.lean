/- Small contracts that nearly all walks use: the tests of a range, least and greatest. -/
import Derived.Test.YthagenodiofgnaaGreatRows
import Derived.WalkKit
import Derived.Lib.Hide
import Derived.Deep.QuietTactic
import Derived.BigQuiet
import Derived.Deep.Draws
import Derived.Below
import Derived.Outline
import Derived.Deep.OwnRows
import Derived.OwnWalk
import Derived.Laws.OwnMore
import Derived.Laws.Rows
import Derived.Maps.AppendAt
import Derived.BigRegion
import Derived.Laws.BitsAllLaws
import Derived.Laws.BitsLemmas
import Derived.Deep.RegionHeld3
import Derived.Deep.Matrix
import Derived.ProofKit
import Derived.OpenShut
import Derived.Lib.SmallJoins
import Derived.Deep.RegionWith
import Derived.Deep.AppendLies
namespace Go.Proofs.YthagenodiofgnaaGreat.Base
open Go.RowKit Go.Proofs.YthagenodiofgnaaGreat
set_option linter.unusedVariables false
theorem ret_int {k : IntKind} {a b : Int} (h : a = b) : Ending.returned (.int k a) = .returned (.int k b) := by rw [h]
theorem ret_bool {a b : Bool} (h : a = b) : Ending.returned (.bool a) = .returned (.bool b) := by rw [h]
def inR (n lo hi : Int) : Bool := decide (lo ≤ n) && decide (n ≤ hi)
theorem inR_true {n lo hi : Int} (h : inR n lo hi = true) : lo ≤ n ∧ n ≤ hi := by simpa [inR] using h
theorem inR_yes {n lo hi : Int} (h : lo ≤ n ∧ n ≤ hi) : inR n lo hi = true := by simp [inR, h.1, h.2]
theorem inR_no {n lo hi : Int} (h : ¬ (lo ≤ n ∧ n ≤ hi)) : inR n lo hi = false := by
 cases h' : inR n lo hi
 ·rfl
 ·exact absurd (inR_true h') h
theorem inRange_any (n lo hi : Int) (w : World) :
  Calls Tryz.prog 56 #[.int .i64 n, .int .i64 lo, .int .i64 hi] w fun e w' => e = .returned (.bool (inR n lo hi)) ∧ w = w' := by
 by_cases h1 : lo ≤ n
 all_goals by_cases h2 : n ≤ hi
 all_goals
  go_enter Tryz.func56, Tryz.ntmps56
  go_wp2
  go_ret
  exact ⟨ret_bool (by simp [inR, h1, h2]), rfl⟩
theorem l00In_any (n lo hi : Int) (w : World) :
  Calls Tryz.prog 62 #[.int .i64 n, .int .i64 lo, .int .i64 hi] w fun e w' => e = .returned (.bool (inR n lo hi)) ∧ w = w' := by
 by_cases h1 : lo ≤ n
 all_goals by_cases h2 : n ≤ hi
 all_goals
  go_enter Tryz.func62, Tryz.ntmps62
  go_wp2
  go_ret
  exact ⟨ret_bool (by simp [inR, h1, h2]), rfl⟩
theorem inRange_q (n lo hi : Int) (w : World) :
  Calls Tryz.prog 56 #[.int .i64 n, .int .i64 lo, .int .i64 hi] w fun e w' => e = .returned (.bool (inR n lo hi)) ∧ w' = w :=
 (inRange_any n lo hi w).mono fun _ _ h => ⟨h.1, h.2.symm⟩
theorem l00In_q (n lo hi : Int) (w : World) :
  Calls Tryz.prog 62 #[.int .i64 n, .int .i64 lo, .int .i64 hi] w fun e w' => e = .returned (.bool (inR n lo hi)) ∧ w' = w :=
 (l00In_any n lo hi w).mono fun _ _ h => ⟨h.1, h.2.symm⟩
theorem inRange_qb {n lo hi : Int} {r : Bool} (h : inR n lo hi = r) (w : World) :
  Calls Tryz.prog 56 #[.int .i64 n, .int .i64 lo, .int .i64 hi] w fun e w' => e = .returned (.bool r) ∧ w' = w := by
 subst h; exact inRange_q n lo hi w
theorem l00In_qb {n lo hi : Int} {r : Bool} (h : inR n lo hi = r) (w : World) :
  Calls Tryz.prog 62 #[.int .i64 n, .int .i64 lo, .int .i64 hi] w fun e w' => e = .returned (.bool r) ∧ w' = w := by
 subst h; exact l00In_q n lo hi w
theorem below_drewN {B : Nat} {a w : World} (h : Below B a w) (n : Nat) : Below B a (w.drewN n) := ⟨h.os, h.tape, h.output, h.size, h.block⟩
theorem box_cells {w wX : World} {cs : Array Value} {T : TypeId} (h : Below (w.alloc (.cells cs T)).heap.size (w.alloc (.cells cs T)) wX) (i : Nat) : wX.cell? ⟨w.heap.size, i, none⟩ = cs[i]? := by
 rw [h.cell (p := ⟨w.heap.size, i, none⟩) (by simp)]
 exact World.cell?_alloc_new w cs T i
theorem Below.next {B : Nat} {w w1 w2 : World} (h : Below B w w1) (h2 : Below w1.heap.size w1 w2) (hB : B ≤ w.heap.size) : Below B w w2 := h.trans (h2.mono (Nat.le_trans hB h.size))
theorem Below.nextA {w w1 w2 : World} (h : Below w.heap.size w w1) (h2 : Below w1.heap.size w1 w2) : Below w.heap.size w w2 := h.trans (h2.mono h.size)
theorem Below.boxed {w w1 : World} {o : Obj} (h : Below (w.alloc o).heap.size (w.alloc o) w1) : Below w.heap.size w w1 := ((Below.refl _ _).alloc (Nat.le_refl _) _).trans (h.mono (by simp))
theorem wp_region_below {P : Program} {id : Nat} {Q : Exit → Act → World → Prop} {a : Act} {w : World} {l : List Oper} (hm : P.follows .mixedOrders = true) (hB : Region.lexB .any l.toArray = true)
  (h : wpQuiet P l.toArray (Below w.heap.size w) (fun a' => ∀ w', Below w.heap.size w w' → Q .normal a' w') l a) : (Code.region id l.toArray true).wp P Q a w :=
 wp_region_quiet (C := Below w.heap.size w) hm hB ((Below.refl w.heap.size w).drew) (by simpa using h)
attribute [irreducible] inR
end Go.Proofs.YthagenodiofgnaaGreat.Base
namespace Go.Proofs.YthagenodiofgnaaGreat.Mem
open Go.RowKit Go.Proofs.YthagenodiofgnaaGreat Go.Proofs.YthagenodiofgnaaGreat.Base
set_option linter.unusedVariables false
def marks (k n : Nat) : List Int := (List.range n).map fun i => ((k + i : Nat) : Int)
def mk : Nat → List (List Int) → List (List Int)
 | _, [] => []
 | k, xs :: r => marks k xs.length :: mk (k + xs.length) r
def RdI (w : World) (B : Nat) (A : Option Addr) (xs : List Int) : Prop :=
 0 < xs.length → ∃ b off, A = some ⟨b, off, none⟩ ∧ b < B ∧ ∀ i, i < xs.length → w.cell? ⟨b, off + i, none⟩ = some (.int .i64 (xs.getD i 0))
def RdII (w : World) (B : Nat) (A : Option Addr) (xss : List (List Int)) : Prop :=
 0 < xss.length → ∃ b off, A = some ⟨b, off, none⟩ ∧ b < B ∧ ∀ i, i < xss.length → ∃ A' c, w.cell? ⟨b, off + i, none⟩ = some (.slice A' (xss.getD i []).length c) ∧ RdI w B A' (xss.getD i [])
theorem RdI.below {w w' : World} {B C : Nat} {A : Option Addr} {xs : List Int} (h : RdI w B A xs) (hb : Below C w w') (hBC : B ≤ C) : RdI w' B A xs := fun h0 => by
 obtain ⟨b, off, e, hlt, hc⟩ := h h0
 exact ⟨b, off, e, hlt, fun i hi => (hb.cell (p := ⟨b, off + i, none⟩) (by show b < C; omega)).trans (hc i hi)⟩
theorem RdI.more {w : World} {B C : Nat} {A : Option Addr} {xs : List Int} (h : RdI w B A xs) (hBC : B ≤ C) : RdI w C A xs := fun h0 => by
 obtain ⟨b, off, e, hlt, hc⟩ := h h0
 exact ⟨b, off, e, by omega, hc⟩
theorem RdII.below {w w' : World} {B C : Nat} {A : Option Addr} {xss : List (List Int)} (h : RdII w B A xss) (hb : Below C w w') (hBC : B ≤ C) : RdII w' B A xss := fun h0 => by
 obtain ⟨b, off, e, hlt, hc⟩ := h h0
 refine ⟨b, off, e, hlt, fun i hi => ?_⟩
 obtain ⟨A', c, h1, h2⟩ := hc i hi
 exact ⟨A', c, (hb.cell (p := ⟨b, off + i, none⟩) (by show b < C; omega)).trans h1, h2.below hb hBC⟩
theorem RdII.more {w : World} {B C : Nat} {A : Option Addr} {xss : List (List Int)} (h : RdII w B A xss) (hBC : B ≤ C) : RdII w C A xss := fun h0 => by
 obtain ⟨b, off, e, hlt, hc⟩ := h h0
 refine ⟨b, off, e, by omega, fun i hi => ?_⟩
 obtain ⟨A', c, h1, h2⟩ := hc i hi
 exact ⟨A', c, h1, h2.more hBC⟩
theorem RdI.drewN {w : World} {B : Nat} {A : Option Addr} {xs : List Int} (h : RdI w B A xs) (n : Nat) : RdI (w.drewN n) B A xs := h.below (below_drewN (Below.refl B w) n) (Nat.le_refl _)
theorem RdII.drewN {w : World} {B : Nat} {A : Option Addr} {xs : List (List Int)} (h : RdII w B A xs) (n : Nat) : RdII (w.drewN n) B A xs := h.below (below_drewN (Below.refl B w) n) (Nat.le_refl _)
def Drawn (w w' : World) : Prop := ∃ m, w' = w.drewN m
theorem Drawn.refl (w : World) : Drawn w w := ⟨0, rfl⟩
theorem Drawn.next {w w' : World} (h : Drawn w w') (n : Nat) : Drawn w (w'.drewN n) := by
 obtain ⟨m, rfl⟩ := h
 exact ⟨m + n, by rw [World.drewN_drewN]⟩
theorem Drawn.below {B : Nat} {w w' : World} (h : Drawn w w') : Below B w w' := by
 obtain ⟨m, rfl⟩ := h
 exact below_drewN (Below.refl _ _) m
def ints (xs : List Int) : List Value := xs.map (Value.int .i64)
theorem ints_len (xs : List Int) : (ints xs).length = xs.length := by simp [ints]
theorem ints_get (xs : List Int) (i : Nat) (h : i < xs.length) : (ints xs)[i]? = some (.int .i64 (xs.getD i 0)) := by simp [ints, List.getD, h]
theorem ints_one (xs : List Int) : ∀ u ∈ ints xs, u.oneCell' = true := by
 intro u hu
 simp only [ints, List.mem_map] at hu
 obtain ⟨x, _, rfl⟩ := hu
 rfl
def OwnI (w : World) (B : Nat) (u : Value) (xs : List Int) : Prop := w.ownsRow B 2 1 u xs.length (ints xs)
structure OwnII (w : World) (B : Nat) (v : Value) (xss : List (List Int)) (us : List Value) : Prop where
 len : us.length = xss.length
 outer : w.ownsRow B 63 1 v xss.length us
 inner : ∀ i, i < xss.length → OwnI w B (us.getD i undef) (xss.getD i [])
 apart : ∀ i j g, i < j → j < xss.length → (us.getD i undef).ownBlock = some g → (us.getD j undef).ownBlock ≠ some g
theorem ownsRow_form {w : World} {base : Nat} {e : TypeId} {size n : Nat} {v : Value} {xs : List Value} (h : w.ownsRow base e size v n xs) : ∃ A c, v = .slice A n c ∧ (0 < n → ∃ g, A = some ⟨g, 0, none⟩ ∧ base ≤ g ∧ g < w.heap.size) := by
 rcases h.2 with ⟨rfl, rfl⟩ | ⟨g, cap, cur, rfl, hb, hh, _⟩
 ·exact ⟨none, 0, rfl, fun h => absurd h (Nat.lt_irrefl 0)⟩
 ·refine ⟨some ⟨g, 0, none⟩, cap, rfl, fun _ => ⟨g, rfl, hb, ?_⟩⟩
  rcases Nat.lt_or_ge g w.heap.size with hlt | hge
  ·exact hlt
  ·rw [Array.getElem?_eq_none hge] at hh; cases hh
theorem ownsRow_below {w w' : World} {base : Nat} {e : TypeId} {size n : Nat} {v : Value} {xs : List Value} (h : w.ownsRow base e size v n xs) (hb : Below w.heap.size w w') : w'.ownsRow base e size v n xs := by
 refine ⟨h.1, ?_⟩
 rcases h.2 with h0 | ⟨g, cap, cur, rfl, h1, hh, h2⟩
 ·exact .inl h0
 ·have hlt : g < w.heap.size := by
   rcases Nat.lt_or_ge g w.heap.size with hlt | hge
   ·exact hlt
   ·rw [Array.getElem?_eq_none hge] at hh; cases hh
  exact .inr ⟨g, cap, cur, rfl, h1, (hb.block g hlt).trans hh, h2⟩
theorem ownsRow_base {w : World} {base base' : Nat} {e : TypeId} {size n : Nat} {v : Value} {xs : List Value} (h : w.ownsRow base e size v n xs) (hb : base' ≤ base) : w.ownsRow base' e size v n xs := by
 refine ⟨h.1, ?_⟩
 rcases h.2 with h0 | ⟨g, cap, cur, rfl, h1, h2⟩
 ·exact .inl h0
 ·exact .inr ⟨g, cap, cur, rfl, by omega, h2⟩
theorem OwnI.rd {w : World} {B n c : Nat} {A : Option Addr} {xs : List Int} (h : OwnI w B (.slice A n c) xs) : RdI w w.heap.size A xs := fun h0 => by
 obtain ⟨A', c', e, hf⟩ := ownsRow_form h
 injection e with e1 e2 e3
 subst e1 e2 e3
 obtain ⟨g, rfl, _, hlt⟩ := hf h0
 refine ⟨g, 0, rfl, hlt, fun i hi => ?_⟩
 rw [Nat.zero_add, World.ownsRow.cellAt h i (by omega), ints_get xs i hi]
theorem OwnI.form {w : World} {B : Nat} {u : Value} {xs : List Int} (h : OwnI w B u xs) : ∃ A c, u = .slice A xs.length c ∧ (0 < xs.length → ∃ g, A = some ⟨g, 0, none⟩ ∧ B ≤ g ∧ g < w.heap.size) := ownsRow_form h
theorem OwnII.form {w : World} {B : Nat} {v : Value} {xss : List (List Int)} {us : List Value} (h : OwnII w B v xss us) : ∃ A c, v = .slice A xss.length c ∧ (0 < xss.length → ∃ g, A = some ⟨g, 0, none⟩ ∧ B ≤ g ∧ g < w.heap.size) := ownsRow_form h.outer
theorem OwnII.rd {w : World} {B n c : Nat} {A : Option Addr} {xss : List (List Int)} {us : List Value} (h : OwnII w B (.slice A n c) xss us) : RdII w w.heap.size A xss := fun h0 => by
 obtain ⟨A', c', e, hf⟩ := h.form
 injection e with e1 e2 e3
 subst e1 e2 e3
 obtain ⟨g, rfl, _, hlt⟩ := hf h0
 refine ⟨g, 0, rfl, hlt, fun i hi => ?_⟩
 have hi' := h.inner i hi
 obtain ⟨A2, c2, e2, _⟩ := hi'.form
 rw [e2] at hi'
 refine ⟨A2, c2, ?_, hi'.rd⟩
 rw [Nat.zero_add, World.ownsRow.cellAt h.outer i (by omega), ← e2]
 have hl : i < us.length := by rw [h.len]; exact hi
 simp [List.getD, hl]
theorem OwnI.below {w w' : World} {B : Nat} {u : Value} {xs : List Int} (h : OwnI w B u xs) (hb : Below w.heap.size w w') : OwnI w' B u xs := ownsRow_below h hb
theorem OwnII.below {w w' : World} {B : Nat} {v : Value} {xss : List (List Int)} {us : List Value} (h : OwnII w B v xss us) (hb : Below w.heap.size w w') : OwnII w' B v xss us :=
 ⟨h.len, ownsRow_below h.outer hb, fun i hi => (h.inner i hi).below hb, h.apart⟩
theorem grown_trans {a b c : World} {row : Option Nat} (h : a.grownBy b row) (k : b.grownBy c row) : a.grownBy c row :=
 ⟨k.os.trans h.os, k.tape.trans h.tape, k.output.trans h.output, Nat.le_trans h.size k.size, fun i hi hne => (k.block i (Nat.lt_of_lt_of_le hi h.size) hne).trans (h.block i hi hne)⟩
theorem ints_set (xs : List Int) (i : Nat) (x : Int) : (ints xs).set i (.int .i64 x) = ints (xs.set i x) := by simp [ints, List.map_set]
theorem ownsRow_block {w : World} {base : Nat} {e : TypeId} {size n g : Nat} {v : Value} {xs : List Value} (h : w.ownsRow base e size v n xs) (hg : v.ownBlock = some g) : ∃ cur, w.heap[g]? = some (.cells cur e (0, 0)) ∧ base ≤ g ∧ g < w.heap.size := by
 rcases h.2 with ⟨rfl, _⟩ | ⟨g', cap, cur, rfl, hb, hh, _⟩
 ·simp [Value.ownBlock] at hg
 ·have : g' = g := by simpa [Value.ownBlock] using hg
  subst this
  refine ⟨cur, hh, hb, ?_⟩
  rcases Nat.lt_or_ge g' w.heap.size with hlt | hge
  ·exact hlt
  ·rw [Array.getElem?_eq_none hge] at hh; cases hh
theorem own_ne {w : World} {base base' : Nat} {e e' : TypeId} {size n size' n' : Nat} {v v' : Value} {xs xs' : List Value} (h : w.ownsRow base e size v n xs) (h' : w.ownsRow base' e' size' v' n' xs') (hne : e ≠ e') : v.ownBlock = none ∨ v.ownBlock ≠ v'.ownBlock := by
 rcases hv : v.ownBlock with _ | g
 ·exact .inl rfl
 ·refine .inr fun e1 => ?_
  obtain ⟨cur, h1, _⟩ := ownsRow_block h hv
  obtain ⟨cur', h2, _⟩ := ownsRow_block h' e1.symm
  rw [h1] at h2
  injection h2 with h2
  injection h2 with _ ht
  exact hne ht
theorem grown_below {B : Nat} {w w' : World} {row : Option Nat} (h : w.grownBy w' row) (hr : ∀ g, row = some g → B ≤ g) (hB : B ≤ w.heap.size) : Below B w w' := (Below.refl B w).grown h hB hr
def mixed (k : Nat) (xss : List (List Int)) (j : Nat) : List (List Int) := (mk k xss).take j ++ xss.drop j
def Above (C : Nat) (w w' : World) : Prop := ∀ g, C ≤ g → g < w.heap.size → w'.heap[g]? = w.heap[g]?
theorem Above.refl (C : Nat) (w : World) : Above C w w := fun _ _ _ => rfl
theorem Above.trans {C : Nat} {a b c : World} (h : Above C a b) (k : Above C b c) (hs : a.heap.size ≤ b.heap.size) : Above C a c := fun g h1 h2 => (k g h1 (by omega)).trans (h g h1 h2)
theorem Above.grown {C : Nat} {w w' : World} {row : Option Nat} (h : w.grownBy w' row) (hr : ∀ g, row = some g → g < C) : Above C w w' := fun g h1 h2 =>
 h.block g h2 fun e => by
  have := hr g (by first | exact e | exact e.symm)
  omega
theorem Above.below {C : Nat} {w w' : World} (h : Below w.heap.size w w') : Above C w w' := fun g _ h2 => h.block g h2
theorem ownsRow_above {w w' : World} {B : Nat} {e : TypeId} {size n : Nat} {v : Value} {xs : List Value} (h : w.ownsRow B e size v n xs) (hb : Above B w w') : w'.ownsRow B e size v n xs := by
 refine ⟨h.1, ?_⟩
 rcases h.2 with h0 | ⟨g, cap, cur, rfl, h1, hh, h2⟩
 ·exact .inl h0
 ·have hlt : g < w.heap.size := by
   rcases Nat.lt_or_ge g w.heap.size with hlt | hge
   ·exact hlt
   ·rw [Array.getElem?_eq_none hge] at hh; cases hh
  exact .inr ⟨g, cap, cur, rfl, h1, (hb g h1 hlt).trans hh, h2⟩
theorem OwnII.above {w w' : World} {B : Nat} {v : Value} {xss : List (List Int)} {us : List Value} (h : OwnII w B v xss us) (hb : Above B w w') : OwnII w' B v xss us :=
 ⟨h.len, ownsRow_above h.outer hb, fun i hi => ownsRow_above (h.inner i hi) hb, h.apart⟩
theorem OwnII.push {wr w1 w2 : World} {B : Nat} {v v' u : Value} {xss : List (List Int)} {us : List Value} {ys : List Int} (h : OwnII wr B v xss us) (h1 : Below wr.heap.size wr w1)
  (hu : w1.ownsRow wr.heap.size 2 1 u ys.length (ints ys)) (hown : w2.ownsRow B 63 1 v' (xss.length + 1) (us ++ [u])) (hg : w1.grownBy w2 v.ownBlock) (hB : B ≤ wr.heap.size) :
  OwnII w2 B v' (xss ++ [ys]) (us ++ [u]) := by
 have ho1 := ownsRow_below h.outer h1
 refine ⟨by simp [h.len], by rw [List.length_append]; exact hown, fun i hi => ?_, fun i j g hij hj hg1 hg2 => ?_⟩
 ·rw [List.length_append] at hi
  rcases Nat.lt_or_ge i xss.length with hlt | hge
  ·have hl : i < us.length := by rw [h.len]; exact hlt
   rw [show (us ++ [u]).getD i undef = us.getD i undef by simp [List.getD, List.getElem?_append_left hl],
    show (xss ++ [ys]).getD i [] = xss.getD i [] by simp [List.getD, List.getElem?_append_left hlt]]
   have hi1 := (h.inner i hlt).below h1
   exact World.ownsRow.kept hi1 hg (own_ne hi1 ho1 (by decide))
  ·obtain rfl : i = xss.length := by simp at hi; omega
   rw [show (us ++ [u]).getD xss.length undef = u by simp [List.getD, ← h.len],
    show (xss ++ [ys]).getD xss.length [] = ys by simp [List.getD]]
   exact World.ownsRow.kept (ownsRow_base hu hB) hg (own_ne hu ho1 (by decide))
 ·rw [List.length_append] at hj
  have hlt : i < xss.length := by simp at hj; omega
  have hl : i < us.length := by rw [h.len]; exact hlt
  rw [show (us ++ [u]).getD i undef = us.getD i undef by simp [List.getD, List.getElem?_append_left hl]] at hg1
  rcases Nat.lt_or_ge j xss.length with hj1 | hge
  ·have hlj : j < us.length := by rw [h.len]; exact hj1
   rw [show (us ++ [u]).getD j undef = us.getD j undef by simp [List.getD, List.getElem?_append_left hlj]] at hg2
   exact h.apart i j g hij hj1 hg1 hg2
  ·obtain rfl : j = xss.length := by simp at hj; omega
   rw [show (us ++ [u]).getD xss.length undef = u by simp [List.getD, ← h.len]] at hg2
   obtain ⟨_, _, _, b1⟩ := ownsRow_block (h.inner i hlt) hg1
   obtain ⟨_, _, b2, _⟩ := ownsRow_block hu hg2
   omega
theorem OwnII.nil (w : World) (B : Nat) : OwnII w B (.slice none 0 0) [] [] :=
 ⟨rfl, World.ownsRow_nil w B _ 1, fun i hi => absurd hi (Nat.not_lt_zero i), fun i j g _ hj => absurd hj (Nat.not_lt_zero j)⟩
theorem OwnII.lit0 (w : World) {B : Nat} (hB : B ≤ w.heap.size) (c : Array Value) (hc : c.size = 0) : OwnII (w.alloc (.cells c 63)) B (.slice (some ⟨w.heap.size, 0, none⟩) 0 0) [] [] :=
 ⟨rfl, World.ownsRow_made w c 0 hB (Nat.zero_le _) (by simpa using hc), fun i hi => absurd hi (Nat.not_lt_zero i), fun i j g _ hj => absurd hj (Nat.not_lt_zero j)⟩
theorem infoI : (Tryz.prog.info? 2).map (fun i => (i.zero, i.size, i.bytes)) = some (some (.int .i64 0), 1, 8) := by kernel_rfl
theorem news_one (w : World) (u : Value) (t : TypeId) {g : Nat} (hg : g = w.heap.size) : ∀ (j : Nat) (x : Value), [u][j]? = some x → (w.alloc (.cells #[u] t)).cell? ((⟨g, 0, none⟩ : Addr).add j) = some x := by
 subst hg
 intro j x hx
 match j with
 | 0 =>
  have : u = x := by simpa using hx
  subst this
  exact World.cell?_alloc_new w #[u] t 0
 | j + 1 => simp at hx
theorem one_slice {A : Option Addr} {n c : Nat} : ∀ u ∈ [Value.slice A n c], u.oneCell' = true := by
 intro u hu
 simp only [List.mem_singleton] at hu
 subst hu; rfl
theorem one_int {k : IntKind} {n : Int} : ∀ u ∈ [Value.int k n], u.oneCell' = true := by
 intro u hu
 simp only [List.mem_singleton] at hu
 subst hu; rfl
def RdB (w : World) (B : Nat) (A : Option Addr) (zs : List Int) : Prop :=
 0 < zs.length → ∃ b off, A = some ⟨b, off, none⟩ ∧ b < B ∧ ∀ i, i < zs.length → w.cell? ⟨b, off + i, none⟩ = some (.int .u8 (zs.getD i 0))
theorem RdB.below {w w' : World} {B C : Nat} {A : Option Addr} {xs : List Int} (h : RdB w B A xs) (hb : Below C w w') (hBC : B ≤ C) : RdB w' B A xs := fun h0 => by
 obtain ⟨b, off, e, hlt, hc⟩ := h h0
 exact ⟨b, off, e, hlt, fun i hi => (hb.cell (p := ⟨b, off + i, none⟩) (by show b < C; omega)).trans (hc i hi)⟩
theorem RdB.more {w : World} {B C : Nat} {A : Option Addr} {xs : List Int} (h : RdB w B A xs) (hBC : B ≤ C) : RdB w C A xs := fun h0 => by
 obtain ⟨b, off, e, hlt, hc⟩ := h h0
 exact ⟨b, off, e, by omega, hc⟩
theorem RdB.drewN {w : World} {B : Nat} {A : Option Addr} {xs : List Int} (h : RdB w B A xs) (n : Nat) : RdB (w.drewN n) B A xs := h.below (below_drewN (Below.refl B w) n) (Nat.le_refl _)
theorem OwnII.base {w : World} {B B' : Nat} {v : Value} {xss : List (List Int)} {us : List Value} (h : OwnII w B v xss us) (hB : B' ≤ B) : OwnII w B' v xss us :=
 ⟨h.len, ownsRow_base h.outer hB, fun i hi => ownsRow_base (h.inner i hi) hB, h.apart⟩
end Go.Proofs.YthagenodiofgnaaGreat.Mem
namespace Go.Proofs.YthagenodiofgnaaGreat.Rev
open Go.RowKit Go.Proofs.YthagenodiofgnaaGreat Go.Proofs.YthagenodiofgnaaGreat.Base Go.Proofs.YthagenodiofgnaaGreat.Mem
set_option linter.unusedVariables false
end Go.Proofs.YthagenodiofgnaaGreat.Rev
namespace Go.Proofs.YthagenodiofgnaaGreat.AllIn
open Go.RowKit Go.Proofs.YthagenodiofgnaaGreat Go.Proofs.YthagenodiofgnaaGreat.Base Go.Proofs.YthagenodiofgnaaGreat.Mem
set_option linter.unusedVariables false
end Go.Proofs.YthagenodiofgnaaGreat.AllIn
namespace Go.Proofs.YthagenodiofgnaaGreat.PopM
set_option linter.unusedVariables false
def T (B : Nat) : Nat → Nat → Nat
 | 0, _ => 0
 | k + 1, x => x % B + T B k (x / B)
def S1 (x : Nat) : Nat := (x / 2 &&& 6148914691236517205) + (x &&& 6148914691236517205)
def S2 (x : Nat) : Nat := (x / 4 &&& 3689348814741910323) + (x &&& 3689348814741910323)
def S3 (x : Nat) : Nat := (x / 16 + x) &&& 1085102592571150095
end Go.Proofs.YthagenodiofgnaaGreat.PopM
namespace Go.Proofs.YthagenodiofgnaaGreat.Bits
open Go.RowKit Go.Proofs.YthagenodiofgnaaGreat Go.Proofs.YthagenodiofgnaaGreat.Base
set_option linter.unusedVariables false
theorem ofInt_i64 (a : Nat) (ha : a < 9223372036854775808) : (BitVec.ofInt 64 (a : Int)).toNat = a := by
 rw [BitVec.ofInt_natCast, BitVec.toNat_ofNat]; exact Nat.mod_eq_of_lt (by omega)
theorem i64_and_nat (a b : Nat) (ha : a < 9223372036854775808) (hb : b < 9223372036854775808) : bits .and .i64 (a : Int) (b : Int) = ((a &&& b : Nat) : Int) := by
 have hx : a &&& b < 2 ^ 63 := Nat.and_lt_two_pow _ (by omega)
 show IntKind.i64.wrap ((BitVec.ofInt 64 (a : Int) &&& BitVec.ofInt 64 (b : Int)).toNat : Int) = _
 rw [BitVec.toNat_and, ofInt_i64 a ha, ofInt_i64 b hb, IntKind.wrap_i64]
 omega
theorem i64_or_nat (a b : Nat) (ha : a < 9223372036854775808) (hb : b < 9223372036854775808) : bits .or .i64 (a : Int) (b : Int) = ((a ||| b : Nat) : Int) := by
 have hx : a ||| b < 2 ^ 63 := Nat.or_lt_two_pow (by omega) (by omega)
 show IntKind.i64.wrap ((BitVec.ofInt 64 (a : Int) ||| BitVec.ofInt 64 (b : Int)).toNat : Int) = _
 rw [BitVec.toNat_or, ofInt_i64 a ha, ofInt_i64 b hb, IntKind.wrap_i64]
 omega
theorem w1 (n : Nat) (hn : n < 18446744073709551616) (h : PopM.S1 n < 18446744073709551616) : IntKind.u64.wrap (bits .and .u64 ((n : Int) / 2) 6148914691236517205 + bits .and .u64 (n : Int) 6148914691236517205) = ((PopM.S1 n : Nat) : Int) := by
 have a := u64_and_nat (n / 2) 6148914691236517205 (by omega) (by omega)
 have b := u64_and_nat n 6148914691236517205 hn (by omega)
 rw [show ((n : Int) / 2) = ((n / 2 : Nat) : Int) by omega]
 rw [show (6148914691236517205 : Int) = ((6148914691236517205 : Nat) : Int) from rfl, a, b, IntKind.wrap_u64]
 unfold PopM.S1 at *
 omega
theorem w2 (n : Nat) (hn : n < 18446744073709551616) (h : PopM.S2 n < 7378697629483820647) : IntKind.u64.wrap (bits .and .u64 ((n : Int) / 4) 3689348814741910323 + bits .and .u64 (n : Int) 3689348814741910323) = ((PopM.S2 n : Nat) : Int) := by
 have a := u64_and_nat (n / 4) 3689348814741910323 (by omega) (by omega)
 have b := u64_and_nat n 3689348814741910323 hn (by omega)
 rw [show ((n : Int) / 4) = ((n / 4 : Nat) : Int) by omega]
 rw [show (3689348814741910323 : Int) = ((3689348814741910323 : Nat) : Int) from rfl, a, b, IntKind.wrap_u64]
 unfold PopM.S2 at *
 omega
theorem w3 (n : Nat) (hn : n < 7378697629483820647) : bits .and .u64 (IntKind.u64.wrap ((n : Int) / 16 + (n : Int))) 1085102592571150095 = ((PopM.S3 n : Nat) : Int) := by
 have a := u64_and_nat (n / 16 + n) 1085102592571150095 (by omega) (by omega)
 have e : IntKind.u64.wrap ((n : Int) / 16 + (n : Int)) = ((n / 16 + n : Nat) : Int) := by rw [IntKind.wrap_u64]; omega
 rw [e, show (1085102592571150095 : Int) = ((1085102592571150095 : Nat) : Int) from rfl, a]
 rfl
theorem w4 (n : Nat) (hn : n < 1157442765409226769) : bits .and .i64 (wrap64 (IntKind.u64.wrap (IntKind.u64.wrap (IntKind.u64.wrap ((n : Int) + (n : Int) / 256) + IntKind.u64.wrap ((n : Int) + (n : Int) / 256) / 65536) + IntKind.u64.wrap (IntKind.u64.wrap ((n : Int) + (n : Int) / 256) + IntKind.u64.wrap ((n : Int) + (n : Int) / 256) / 65536) / 4294967296))) 127 =
  (((n + n / 256 + (n + n / 256) / 65536 + (n + n / 256 + (n + n / 256) / 65536) / 4294967296) % 128 : Nat) : Int) := by
 have e1 : IntKind.u64.wrap ((n : Int) + (n : Int) / 256) = ((n + n / 256 : Nat) : Int) := by rw [IntKind.wrap_u64]; omega
 rw [e1]
 have hx : n + n / 256 < 1161964026368821562 := by omega
 generalize n + n / 256 = x at *
 have e2 : IntKind.u64.wrap ((x : Int) + (x : Int) / 65536) = ((x + x / 65536 : Nat) : Int) := by rw [IntKind.wrap_u64]; omega
 rw [e2]
 have hy : x + x / 65536 < 1161981756664180000 := by omega
 generalize x + x / 65536 = y at *
 have e3 : IntKind.u64.wrap ((y : Int) + (y : Int) / 4294967296) = ((y + y / 4294967296 : Nat) : Int) := by rw [IntKind.wrap_u64]; omega
 have hz : y + y / 4294967296 < 1161981757000000000 := by omega
 rw [e3]
 generalize y + y / 4294967296 = z at *
 have e4 : wrap64 (z : Int) = (z : Int) := by simp only [wrap64]; omega
 rw [e4, show (127 : Int) = ((127 : Nat) : Int) from rfl, i64_and_nat z 127 (by omega) (by omega), nat_mask7]
theorem and1 (x : Nat) (h : x < 9223372036854775808) : bits .and .i64 (x : Int) 1 = ((x % 2 : Nat) : Int) := by
 have := i64_and_nat x 1 h (by omega)
 rw [nat_mask1] at this
 exact this
end Go.Proofs.YthagenodiofgnaaGreat.Bits
set_option linter.unusedVariables false
namespace Go.Proofs.YthagenodiofgnaaGreat.CycM
end Go.Proofs.YthagenodiofgnaaGreat.CycM
namespace Go.Proofs.YthagenodiofgnaaGreat.Cong
open Go.RowKit Go.Proofs.YthagenodiofgnaaGreat Go.Proofs.YthagenodiofgnaaGreat.Base
set_option linter.unusedVariables false
def stepN (m f a x : Nat) : Nat := (f * x + a) % m
end Go.Proofs.YthagenodiofgnaaGreat.Cong
namespace Go.Proofs.YthagenodiofgnaaGreat.Reg
open Go.RowKit Go.Proofs.YthagenodiofgnaaGreat Go.Proofs.YthagenodiofgnaaGreat.Base Go.Proofs.YthagenodiofgnaaGreat.Bits
set_option linter.unusedVariables false
end Go.Proofs.YthagenodiofgnaaGreat.Reg
namespace Go.Proofs.YthagenodiofgnaaGreat.Pts
open Go.RowKit Go.Proofs.YthagenodiofgnaaGreat Go.Proofs.YthagenodiofgnaaGreat.Base Go.Proofs.YthagenodiofgnaaGreat.Mem Go.Proofs.YthagenodiofgnaaGreat.AllIn
set_option linter.unusedVariables false
theorem all_no {α : Type} {xs : List α} {f : α → Bool} (d : α) {i : Nat} (h : i < xs.length) (hx : f (xs.getD i d) = false) : xs.all f = false := by
 cases h' : xs.all f
 ·rfl
 ·have := List.all_eq_true.1 h' (xs.getD i d) (by simp [List.getD, h])
  rw [hx] at this; exact this.symm
end Go.Proofs.YthagenodiofgnaaGreat.Pts
namespace Go.Proofs.YthagenodiofgnaaGreat.RevNet
open Go.RowKit Go.Proofs.YthagenodiofgnaaGreat Go.Proofs.YthagenodiofgnaaGreat.Base Go.Proofs.YthagenodiofgnaaGreat.Mem Go.Proofs.YthagenodiofgnaaGreat.Pts
set_option linter.unusedVariables false
theorem OwnII.two {w : World} {B : Nat} {u1 u2 : Value} {ys1 ys2 : List Int} (h1 : OwnI w B u1 ys1) (h2 : OwnI w B u2 ys2) (hB : B ≤ w.heap.size) (ha : ∀ g, u1.ownBlock = some g → u2.ownBlock ≠ some g) :
  OwnII (w.alloc (.cells #[u1, u2] 63)) B (.slice (some ⟨w.heap.size, 0, none⟩) 2 2) [ys1, ys2] [u1, u2] := by
 refine ⟨rfl, ?_, fun i hi => ?_, fun i j g hij hj hg => ?_⟩
 ·exact World.ownsRow_lit (e := 63) (size := 1) (base := B) w #[u1, u2] 2 hB (by simp [maxLen]) rfl
 ·match i, hi with
  | 0, _ => exact World.ownsRow.alloc h1 _
  | 1, _ => exact World.ownsRow.alloc h2 _
 ·have hj' : j < 2 := hj
  obtain rfl : i = 0 := by omega
  obtain rfl : j = 1 := by omega
  exact ha g hg
theorem beside {wr w2 : World} {B : Nat} {v u : Value} {xs ys : List Int} {o : Obj} (hO : OwnI wr B v xs) (hu : OwnI wr B u ys) (ha : ∀ g, v.ownBlock = some g → u.ownBlock ≠ some g) (hg : (wr.alloc o).grownBy w2 v.ownBlock) : OwnI w2 B u ys := by
 refine World.ownsRow.kept (World.ownsRow.alloc hu o) hg ?_
 rcases hv : u.ownBlock with _ | g
 ·exact .inl rfl
 ·exact .inr fun e => ha g e.symm hv
end Go.Proofs.YthagenodiofgnaaGreat.RevNet
namespace Go.Proofs.YthagenodiofgnaaGreat.NetV
open Go.RowKit Go.Proofs.YthagenodiofgnaaGreat Go.Proofs.YthagenodiofgnaaGreat.Base Go.Proofs.YthagenodiofgnaaGreat.Mem Go.Proofs.YthagenodiofgnaaGreat.AllIn Go.Proofs.YthagenodiofgnaaGreat.Pts
set_option linter.unusedVariables false
end Go.Proofs.YthagenodiofgnaaGreat.NetV
namespace Go.Proofs.YthagenodiofgnaaGreat.Cpy
open Go.RowKit Go.Proofs.YthagenodiofgnaaGreat Go.Proofs.YthagenodiofgnaaGreat.Base Go.Proofs.YthagenodiofgnaaGreat.Mem
set_option linter.unusedVariables false
theorem us_set {us : List Value} {j n : Nat} (hj : us.length = j) (hn : j < n) (u z : Value) : (us ++ List.replicate (n - j) z).set j u = (us ++ [u]) ++ List.replicate (n - (j + 1)) z := by
 rw [List.set_append_right _ _ (Nat.le_of_eq hj), hj, Nat.sub_self, show n - j = (n - (j + 1)) + 1 by omega, List.replicate_succ, List.set_cons_zero, List.append_assoc]
 rfl
theorem us_get {us : List Value} {j n : Nat} (hj : us.length = j) (hn : j < n) (z : Value) : (us ++ List.replicate (n - j) z)[j]? = some z := by
 rw [List.getElem?_append_right (Nat.le_of_eq hj), hj, Nat.sub_self, List.getElem?_replicate, if_pos (by omega)]
end Go.Proofs.YthagenodiofgnaaGreat.Cpy
namespace Go.Proofs.YthagenodiofgnaaGreat.Open
open Go.ChangeShapes Go.WideShapes Go.ChangeAt Go.RowKit Go.Joins Go.Proofs.YthagenodiofgnaaGreat
set_option linter.unusedVariables false
set_option maxRecDepth 100000
section
variable {H : Type} {enc : TypeId × Value → H} {w : World} {base b0 : Nat} {spare : Nat → Bool} {held : Bool} {v : Value} {d : DataW H} {p : List MemPlace}
theorem field_int {n : Nat} {fs : Array Field} {cs : List Value} {xs : List (DataW H × List MemPlace)} (hlen : xs.length = fs.size)
  (hg : ∀ (i : Nat) (f : Field), fs[i]? = some f → DataW.trod enc Tryz.prog w base spare held n f.type ((cs.drop f.offset).take (Tryz.prog.cellsOf f.type)) = xs[i]?)
  (i : Nat) (f : Field) (hf : fs[i]? = some f) (ht : f.type = 2) : ∃ a : Int, (cs.drop f.offset).take (Tryz.prog.cellsOf f.type) = [.int .i64 a] := by
 have h := hg i f hf
 have hi : i < xs.length := by rw [hlen]; exact (Array.getElem?_eq_some_iff.1 hf).1
 rw [List.getElem?_eq_getElem hi, ht] at h
 obtain ⟨a, e, _, _⟩ := DataW.trod_int Tryz.underlying2 h
 exact ⟨a, by rw [ht]; exact e⟩
theorem addr_add {a : Addr} (h : a.spot = none) (i : Nat) : a.add i = ⟨a.block, a.off + i, none⟩ := by
 obtain ⟨b, off, spot⟩ := a
 simp at h; subst h
 unfold Addr.add
 split <;> simp_all
theorem spot_of {a : Addr} {u : Value} (h : w.cell? (a.add 0) = some u) : a.spot = none ∧ a.block < w.heap.size := by
 have e : a.add 0 = a := by simp [Addr.add]
 rw [e] at h
 exact ⟨World.cell?_spot h, block_lt_of_cell h⟩
theorem cells8 : Tryz.prog.cellsOf 5 = 1 := by kernel_rfl
structure IsBytes (w : World) (v : Value) : Prop where
 ex : ∃ (A : Option Addr) (c : Nat) (zs : List Int), v = .slice A zs.length c ∧ zs.length ≤ 9223372036854775807 ∧ (∀ z ∈ zs, 0 ≤ z ∧ z ≤ 255) ∧ Mem.RdB w w.heap.size A zs
theorem bytes (hv : Value.okWide Tryz.prog w .any b0 38 v) (h : DataW.Trod enc Tryz.prog w base (fun _ => true) held 38 v d p) : IsBytes w v := by
 obtain ⟨a, len, cap, rfl⟩ := okWide_slice Tryz.underlying38 hv
 obtain ⟨fuel, hf⟩ := h
 rcases open_ints Tryz.underlying38 Tryz.underlying5 cells8 hf with ⟨hcs, _⟩ | ⟨x, l, c, zs, hcs, _, hl, hm, hz, _, hcell, hwz⟩
 ·simp [Value.cells] at hcs
  obtain ⟨rfl, rfl, rfl⟩ := hcs
  exact ⟨none, 0, [], rfl, by decide, by simp, fun h => absurd h (by simp)⟩
 ·simp [Value.cells] at hcs
  obtain ⟨rfl, rfl, rfl⟩ := hcs
  simp only [if_true] at hz
  have hlen : (zs.take len).length = len := by rw [List.length_take]; omega
  refine ⟨some x, cap, zs.take len, by rw [hlen], ?_, fun z hzm => ?_, fun h0 => ?_⟩
  ·rw [hlen]; unfold maxLen at hm; omega
  ·have := hwz z (List.mem_of_mem_take hzm)
   simp [Lit.wf, IntKind.min, IntKind.max, IntKind.signed, IntKind.bits] at this
   omega
  ·rw [hlen] at h0
   obtain ⟨hs, hb⟩ := spot_of (hcell 0 (by omega))
   refine ⟨x.block, x.off, by cases x; simp_all, hb, fun i hi => ?_⟩
   rw [hlen] at hi
   rw [← addr_add hs, hcell i (by omega)]
   simp [List.getD, hi]
theorem cellsI1 : Tryz.prog.cellsOf 2 = 1 := by kernel_rfl
structure IsInts (w : World) (v : Value) : Prop where
 ex : ∃ (A : Option Addr) (c : Nat) (zs : List Int), v = .slice A zs.length c ∧ zs.length ≤ 9223372036854775807 ∧ (∀ z ∈ zs, -9223372036854775808 ≤ z ∧ z ≤ 9223372036854775807) ∧ Mem.RdI w w.heap.size A zs
theorem ints (hv : Value.okWide Tryz.prog w .any b0 63 v) (h : DataW.Trod enc Tryz.prog w base (fun _ => true) held 63 v d p) : IsInts w v := by
 obtain ⟨a, len, cap, rfl⟩ := okWide_slice Tryz.underlying63 hv
 obtain ⟨fuel, hf⟩ := h
 rcases open_ints Tryz.underlying63 Tryz.underlying2 cellsI1 hf with ⟨hcs, _⟩ | ⟨x, l, c, zs, hcs, _, hl, hm, hz, _, hcell, hwz⟩
 ·simp [Value.cells] at hcs
  obtain ⟨rfl, rfl, rfl⟩ := hcs
  exact ⟨none, 0, [], rfl, by decide, by simp, fun h => absurd h (by simp)⟩
 ·simp [Value.cells] at hcs
  obtain ⟨rfl, rfl, rfl⟩ := hcs
  simp only [if_true] at hz
  have hlen : (zs.take len).length = len := by rw [List.length_take]; omega
  refine ⟨some x, cap, zs.take len, by rw [hlen], ?_, fun z hzm => ?_, fun h0 => ?_⟩
  ·rw [hlen]; unfold maxLen at hm; omega
  ·have := hwz z (List.mem_of_mem_take hzm)
   simp [Lit.wf, IntKind.min, IntKind.max, IntKind.signed, IntKind.bits] at this
   omega
  ·rw [hlen] at h0
   obtain ⟨hs, hb⟩ := spot_of (hcell 0 (by omega))
   refine ⟨x.block, x.off, by cases x; simp_all, hb, fun i hi => ?_⟩
   rw [hlen] at hi
   rw [← addr_add hs, hcell i (by omega)]
   simp [List.getD, hi]
end
end Go.Proofs.YthagenodiofgnaaGreat.Open
namespace Go.Proofs.YthagenodiofgnaaGreat.NetV
open Go.RowKit Go.Proofs.YthagenodiofgnaaGreat Go.Proofs.YthagenodiofgnaaGreat.Base Go.Proofs.YthagenodiofgnaaGreat.Mem Go.Proofs.YthagenodiofgnaaGreat.Cpy
set_option linter.unusedVariables false
end Go.Proofs.YthagenodiofgnaaGreat.NetV
namespace Go.Proofs.YthagenodiofgnaaGreat.RevNet
open Go.RowKit Go.Proofs.YthagenodiofgnaaGreat Go.Proofs.YthagenodiofgnaaGreat.Base Go.Proofs.YthagenodiofgnaaGreat.Mem Go.Proofs.YthagenodiofgnaaGreat.Pts Go.Proofs.YthagenodiofgnaaGreat.NetV
set_option linter.unusedVariables false
end Go.Proofs.YthagenodiofgnaaGreat.RevNet
namespace Go.Proofs.YthagenodiofgnaaGreat.Shift
open Go.RowKit Go.Proofs.YthagenodiofgnaaGreat Go.Proofs.YthagenodiofgnaaGreat.Base Go.Proofs.YthagenodiofgnaaGreat.Mem Go.Proofs.YthagenodiofgnaaGreat.AllIn Go.Proofs.YthagenodiofgnaaGreat.Pts Go.Proofs.YthagenodiofgnaaGreat.RevNet Go.Proofs.YthagenodiofgnaaGreat.Bits
set_option linter.unusedVariables false
def GRel (L : List (List Int)) (w : World) (out i : Value) (wr : World) : Prop :=
 ∃ (k : Nat) (us : List Value), k ≤ L.length ∧ i = .int .i64 (k : Int) ∧ OwnII wr w.heap.size out (L.take k) us ∧ Below w.heap.size w wr
theorem GRel.start (L : List (List Int)) (w : World) : GRel L w (.slice (some ⟨w.heap.size, 0, none⟩) 0 0) (.int .i64 0) (w.alloc (.cells #[] 63)) :=
 ⟨0, [], Nat.zero_le _, rfl, OwnII.lit0 w (Nat.le_refl _) _ rfl, (Below.refl _ _).alloc (Nat.le_refl _) _⟩
theorem take_snoc {α : Type} (L : List α) (d : Nat) (z : α) (h : d < L.length) : L.take (d + 1) = L.take d ++ [L.getD d z] := by
 rw [List.take_succ_eq_append_getElem h]; simp [List.getD, h]
theorem GRel.next {L : List (List Int)} {k : Nat} {us : List Value} {w wo wr w2 : World} {v v' p : Value} (hk : k < L.length) (hO : OwnII wo w.heap.size v (L.take k) us) (hb : Below w.heap.size w wo)
  (hp : OwnI wr wo.heap.size p (L.getD k [])) (hb2 : Below wo.heap.size wo wr) (hown : w2.ownsRow w.heap.size 63 1 v' (k + 1) (us ++ [p])) (hg : (wr.alloc (.cells #[p] 63)).grownBy w2 v.ownBlock) :
  GRel L w v' (.int .i64 ((k : Int) + 1)) w2 := by
 have h1 : Below wo.heap.size wo (wr.alloc (.cells #[p] 63)) := hb2.alloc hb2.size _
 have hu : (wr.alloc (.cells #[p] 63)).ownsRow wo.heap.size 2 1 p (L.getD k []).length (ints (L.getD k [])) := World.ownsRow.alloc hp _
 have hl : (L.take k).length = k := by rw [List.length_take]; omega
 refine ⟨k + 1, us ++ [p], hk, by simp, ?_, hb.trans ((h1.mono hb.size).trans (grown_below hg (fun g he => ?_) (Nat.le_trans hb.size h1.size)))⟩
 ·rw [take_snoc L k [] hk]
  exact hO.push h1 hu (by rw [hl]; exact hown) hg hb.size
 ·obtain ⟨_, _, h3, _⟩ := ownsRow_block hO.outer he
  exact h3
end Go.Proofs.YthagenodiofgnaaGreat.Shift
namespace Go.Proofs.YthagenodiofgnaaGreat.Cuts
open Go.RowKit Go.Proofs.YthagenodiofgnaaGreat Go.Proofs.YthagenodiofgnaaGreat.Base Go.Proofs.YthagenodiofgnaaGreat.Mem Go.Proofs.YthagenodiofgnaaGreat.AllIn Go.Proofs.YthagenodiofgnaaGreat.Pts Go.Proofs.YthagenodiofgnaaGreat.RevNet Go.Proofs.YthagenodiofgnaaGreat.Bits
set_option linter.unusedVariables false
end Go.Proofs.YthagenodiofgnaaGreat.Cuts
namespace Go.Proofs.YthagenodiofgnaaGreat.Inv
open Go.RowKit Go.Proofs.YthagenodiofgnaaGreat Go.Proofs.YthagenodiofgnaaGreat.Base Go.Proofs.YthagenodiofgnaaGreat.Mem
set_option linter.unusedVariables false
end Go.Proofs.YthagenodiofgnaaGreat.Inv
namespace Go.Proofs.YthagenodiofgnaaGreat.NatM
set_option linter.unusedVariables false
def B32 : Nat := 4294967296
def val : List Nat → Nat
 | [] => 0
 | x :: xs => x + B32 * val xs
def okN (xs : List Nat) : Prop := ∀ x ∈ xs, x < B32
theorem val_append : ∀ (xs ys : List Nat), val (xs ++ ys) = val xs + B32 ^ xs.length * val ys
 | [], ys => by simp [val]
 | x :: xs, ys => by
  rw [List.cons_append, val, val, val_append xs ys, List.length_cons, Nat.pow_succ, Nat.mul_add, ← Nat.mul_assoc, Nat.mul_comm B32 (B32 ^ xs.length), Nat.add_assoc]
theorem val_lt : ∀ (xs : List Nat), okN xs → val xs < B32 ^ xs.length
 | [], _ => by simp [val]
 | x :: xs, h => by
  have h1 := val_lt xs fun y hy => h y (by simp [hy])
  have h2 := h x (by simp)
  rw [val, List.length_cons, Nat.pow_succ, Nat.mul_comm (B32 ^ xs.length)]
  have h3 : val xs + 1 ≤ B32 ^ xs.length := h1
  have h4 := Nat.mul_le_mul_left B32 h3
  rw [Nat.mul_add] at h4
  omega
def natL (x : Nat) : List Nat := if h : x = 0 then [] else x % B32 :: natL (x / B32)
termination_by x
decreasing_by exact Nat.div_lt_self (Nat.pos_of_ne_zero h) (by decide)
theorem natL_zero : natL 0 = [] := by rw [natL]; simp
theorem natL_pos {x : Nat} (h : x ≠ 0) : natL x = x % B32 :: natL (x / B32) := by
 conv => lhs; rw [natL]
 simp [h]
theorem natL_val (x : Nat) : val (natL x) = x := by
 induction x using Nat.strongRecOn with
 | _ x ih =>
  by_cases h : x = 0
  ·subst h; rw [natL_zero]; rfl
  ·rw [natL_pos h, val, ih (x / B32) (Nat.div_lt_self (Nat.pos_of_ne_zero h) (by decide))]
   exact Nat.mod_add_div x B32
theorem natL_ok (x : Nat) : okN (natL x) := by
 induction x using Nat.strongRecOn with
 | _ x ih =>
  by_cases h : x = 0
  ·subst h; rw [natL_zero]; intro y hy; cases hy
  ·rw [natL_pos h]
   intro y hy
   rcases List.mem_cons.1 hy with rfl | hy
   ·exact Nat.mod_lt _ (by decide)
   ·exact ih (x / B32) (Nat.div_lt_self (Nat.pos_of_ne_zero h) (by decide)) y hy
def canon (xs : List Nat) : Prop := okN xs ∧ ∀ n, xs.length = n + 1 → xs.getD n 0 ≠ 0
theorem okN_cons {x : Nat} {xs : List Nat} (h : okN (x :: xs)) : okN xs := fun y hy => h y (by simp [hy])
theorem canon_natL : ∀ {xs : List Nat}, canon xs → natL (val xs) = xs
 | [], _ => natL_zero
 | x :: xs, h => by
  have hx := h.1 x (by simp)
  have hc : canon xs := ⟨okN_cons h.1, fun n hn => by have := h.2 (n + 1) (by simp [hn]); simpa [List.getD] using this⟩
  have hne : val (x :: xs) ≠ 0 := by
   intro h0
   rw [val] at h0
   rcases xs with _ | ⟨y, ys⟩
   ·have := h.2 0 rfl
    simp [List.getD] at this
    omega
   ·have hy : val (y :: ys) = 0 := by
     have : B32 * val (y :: ys) = 0 := by omega
     rcases Nat.mul_eq_zero.1 this with h1 | h1
     ·exact absurd h1 (by decide)
     ·exact h1
    have e := canon_natL hc
    rw [hy, natL_zero] at e
    cases e
  rw [natL_pos hne]
  have hm : val (x :: xs) % B32 = x := by rw [val, Nat.add_mul_mod_self_left, Nat.mod_eq_of_lt hx]
  have hd : val (x :: xs) / B32 = val xs := by rw [val, Nat.add_mul_div_left _ _ (by decide : 0 < B32), Nat.div_eq_of_lt hx, Nat.zero_add]
  rw [hm, hd, canon_natL hc]
theorem natL_canon (x : Nat) : canon (natL x) := by
 refine ⟨natL_ok x, ?_⟩
 induction x using Nat.strongRecOn with
 | _ x ih =>
  intro n hn
  by_cases h : x = 0
  ·subst h; rw [natL_zero] at hn; cases hn
  ·rw [natL_pos h] at hn ⊢
   have hlt := Nat.div_lt_self (Nat.pos_of_ne_zero h) (show 1 < B32 by decide)
   rcases n with _ | n
   ·simp only [List.length_cons] at hn
    have h0 : (natL (x / B32)).length = 0 := by omega
    have h1 : natL (x / B32) = [] := List.eq_nil_of_length_eq_zero h0
    have h2 : x / B32 = 0 := by rw [← natL_val (x / B32), h1]; rfl
    have h3 := Nat.mod_add_div x B32
    rw [h2] at h3
    simp [List.getD]
    omega
   ·have := ih (x / B32) hlt n (by simp only [List.length_cons] at hn; omega)
    simpa [List.getD] using this
theorem okN_take {xs : List Nat} (h : okN xs) (n : Nat) : okN (xs.take n) := fun y hy => h y (List.mem_of_mem_take hy)
theorem val_snoc (xs : List Nat) (y : Nat) : val (xs ++ [y]) = val xs + B32 ^ xs.length * y := by
 rw [val_append]; simp [val]
theorem val_take_succ (xs : List Nat) (k : Nat) (h : k < xs.length) : val (xs.take (k + 1)) = val (xs.take k) + B32 ^ k * xs.getD k 0 := by
 rw [List.take_succ_eq_append_getElem h, val_snoc, List.length_take, Nat.min_eq_left (Nat.le_of_lt h)]
 simp [List.getD, h]
theorem trim_done {xs : List Nat} {n : Nat} (hok : okN xs) (hn : n ≤ xs.length) (hv : val (xs.take n) = val xs) (hl : n = 0 ∨ xs.getD (n - 1) 0 ≠ 0) : xs.take n = natL (val xs) := by
 rw [← hv]
 refine (canon_natL ⟨okN_take hok n, fun m hm => ?_⟩).symm
 rw [List.length_take, Nat.min_eq_left hn] at hm
 rcases hl with h0 | h0
 ·omega
 ·have e : n - 1 = m := by omega
  rw [e] at h0
  have : (xs.take n).getD m 0 = xs.getD m 0 := by simp [List.getD, show m < n by omega]
  rw [this]; exact h0
theorem trim_step {xs : List Nat} {n : Nat} (hn : n + 1 ≤ xs.length) (hv : val (xs.take (n + 1)) = val xs) (h0 : xs.getD n 0 = 0) : val (xs.take n) = val xs := by
 rw [val_take_succ xs n (by omega), h0] at hv
 omega
theorem val_cmp {xs ys : List Nat} (hl : xs.length = ys.length) (hx : okN xs) (hy : okN ys) : ∀ (n : Nat), n ≤ xs.length → (∀ j, n ≤ j → j < xs.length → xs.getD j 0 = ys.getD j 0) → (val xs < val ys ↔ val (xs.take n) < val (ys.take n)) ∧ (val xs = val ys ↔ val (xs.take n) = val (ys.take n)) := by
 intro n hn
 obtain ⟨d, hd⟩ : ∃ d, xs.length = n + d := ⟨xs.length - n, by omega⟩
 induction d generalizing n with
 | zero =>
  intro _
  rw [List.take_of_length_le (by omega), List.take_of_length_le (by omega)]
  exact ⟨Iff.rfl, Iff.rfl⟩
 | succ d ih =>
  intro he
  have h1 := ih (n + 1) (by omega) (by omega) (fun j hj hj2 => he j (by omega) hj2)
  have e := he n (Nat.le_refl _) (by omega)
  rw [val_take_succ xs n (by omega), val_take_succ ys n (by omega), e] at h1
  refine ⟨h1.1.trans ?_, h1.2.trans ?_⟩ <;> omega
theorem cmp_lt {xs ys : List Nat} (hl : xs.length = ys.length) (hx : okN xs) (hy : okN ys) {n : Nat} (hn : n < xs.length) (he : ∀ j, n + 1 ≤ j → j < xs.length → xs.getD j 0 = ys.getD j 0) (h : xs.getD n 0 < ys.getD n 0) : val xs < val ys := by
 refine (val_cmp hl hx hy (n + 1) (by omega) he).1.2 ?_
 rw [val_take_succ xs n hn, val_take_succ ys n (by omega)]
 have h1 := val_lt _ (okN_take hx n)
 rw [List.length_take, Nat.min_eq_left (by omega)] at h1
 have h2 := Nat.mul_le_mul_left (B32 ^ n) (show xs.getD n 0 + 1 ≤ ys.getD n 0 from h)
 rw [Nat.mul_add, Nat.mul_one] at h2
 omega
theorem natL_len_lt {x y : Nat} (h : (natL x).length < (natL y).length) : x < y := by
 have h1 := val_lt _ (natL_ok x)
 rw [natL_val] at h1
 obtain ⟨n, hn⟩ : ∃ n, (natL y).length = n + 1 := ⟨(natL y).length - 1, by omega⟩
 have h2 := (natL_canon y).2 n hn
 have h3 := val_take_succ (natL y) n (by omega)
 rw [List.take_of_length_le (by omega), natL_val] at h3
 have h4 : B32 ^ (natL x).length ≤ B32 ^ n := Nat.pow_le_pow_right (by decide) (by omega)
 have h5 : B32 ^ n * 1 ≤ B32 ^ n * (natL y).getD n 0 := Nat.mul_le_mul_left _ (by omega)
 omega
theorem natL_len_le {x k : Nat} (h : x < B32 ^ k) : (natL x).length ≤ k := by
 rcases Nat.lt_or_ge k (natL x).length with hl | hl
 ·obtain ⟨n, hn⟩ : ∃ n, (natL x).length = n + 1 := ⟨(natL x).length - 1, by omega⟩
  have h2 := (natL_canon x).2 n hn
  have h3 := val_take_succ (natL x) n (by omega)
  rw [List.take_of_length_le (by omega), natL_val] at h3
  have h4 : B32 ^ k ≤ B32 ^ n := Nat.pow_le_pow_right (by decide) (by omega)
  have h5 : B32 ^ n * 1 ≤ B32 ^ n * (natL x).getD n 0 := Nat.mul_le_mul_left _ (by omega)
  omega
 ·exact hl
end Go.Proofs.YthagenodiofgnaaGreat.NatM
namespace Go.Proofs.YthagenodiofgnaaGreat.Nat32
open Go.RowKit Go.Proofs.YthagenodiofgnaaGreat Go.Proofs.YthagenodiofgnaaGreat.Base Go.Proofs.YthagenodiofgnaaGreat.Mem Go.Proofs.YthagenodiofgnaaGreat.NatM
set_option linter.unusedVariables false
def RdU (w : World) (B : Nat) (A : Option Addr) (xs : List Nat) : Prop :=
 0 < xs.length → ∃ b off, A = some ⟨b, off, none⟩ ∧ b < B ∧ ∀ i, i < xs.length → w.cell? ⟨b, off + i, none⟩ = some (.int .u32 ((xs.getD i 0 : Nat) : Int))
theorem RdU.below {w w' : World} {B C : Nat} {A : Option Addr} {xs : List Nat} (h : RdU w B A xs) (hb : Below C w w') (hBC : B ≤ C) : RdU w' B A xs := fun h0 => by
 obtain ⟨b, off, e, hlt, hc⟩ := h h0
 exact ⟨b, off, e, hlt, fun i hi => (hb.cell (p := ⟨b, off + i, none⟩) (by show b < C; omega)).trans (hc i hi)⟩
theorem RdU.more {w : World} {B C : Nat} {A : Option Addr} {xs : List Nat} (h : RdU w B A xs) (hBC : B ≤ C) : RdU w C A xs := fun h0 => by
 obtain ⟨b, off, e, hlt, hc⟩ := h h0
 exact ⟨b, off, e, by omega, hc⟩
theorem RdU.take {w : World} {B n : Nat} {A : Option Addr} {xs : List Nat} (h : RdU w B A xs) (hn : n ≤ xs.length) : RdU w B A (xs.take n) := fun h0 => by
 rw [List.length_take, Nat.min_eq_left hn] at h0
 obtain ⟨b, off, e, hlt, hc⟩ := h (by omega)
 refine ⟨b, off, e, hlt, fun i hi => ?_⟩
 rw [List.length_take, Nat.min_eq_left hn] at hi
 rw [hc i (by omega)]
 simp [List.getD, hi]
theorem RdU.drewN {w : World} {B : Nat} {A : Option Addr} {xs : List Nat} (h : RdU w B A xs) (n : Nat) : RdU (w.drewN n) B A xs := h.below (below_drewN (Below.refl B w) n) (Nat.le_refl _)
def NRet (x : Nat) (w : World) (e : Ending) (w' : World) : Prop := ∃ A c, e = .returned (.slice A (natL x).length c) ∧ RdU w' w'.heap.size A (natL x) ∧ Below w.heap.size w w'
def TrimRet (A : Option Addr) (c x : Nat) (w : World) (e : Ending) (w' : World) : Prop := e = .returned (.slice A (natL x).length c) ∧ w = w'
set_option maxHeartbeats 1000000 in
theorem trim_any (A : Option Addr) (c B : Nat) (xs : List Nat) (w : World) (hx : RdU w B A xs) (hok : okN xs) (hl : xs.length ≤ 10000000) (hc : xs.length ≤ c) (hc2 : c ≤ 9223372036854775807) :
  Calls Tryz.prog 123 #[.slice A xs.length c] w (TrimRet A c (val xs) w) := by
 have HX := Lib.hid hx
 have HOk := Lib.hid hok
 have h0 : Hid (val (xs.take xs.length) = val xs) := Lib.hid (by rw [List.take_of_length_le (Nat.le_refl _)])
 clear hx hok
 go_enter Tryz.func123, Tryz.ntmps123
 go_wp2
 go_loop [3] (fun nv => ∃ n : Nat, n ≤ xs.length ∧ nv = .int .i64 (n : Int) ∧ Hid (val (xs.take n) = val xs)) (fun nv => (intOf nv).toNat)
 case atStart => exact ⟨xs.length, Nat.le_refl _, rfl, h0⟩
 case round =>
  obtain ⟨n, hn, rfl, hv⟩ := hrel
  clear h0
  by_cases hpos : 0 < n
  ·obtain ⟨m, rfl⟩ : ∃ m, n = m + 1 := ⟨n - 1, by omega⟩
   obtain ⟨b, off, rfl, _, hcell⟩ := HX.out (by omega)
   have g := hcell m (by omega)
   clear hcell
   by_cases hz : xs.getD m 0 = 0
   ·have HN := Lib.hid (trim_step hn hv.out hz)
    rw [hz] at g
    clear hz
    go_wp2
    go_round
    case rel => exact ⟨m, by omega, rfl, HN⟩
    case measure => simp [intOf]
   ·have HT := Lib.hid (trim_done HOk.out hn hv.out (.inr (by simpa using hz)))
    have hlen : Hid ((natL (val xs)).length = m + 1) := Lib.hid (by rw [← HT.out, List.length_take, Nat.min_eq_left hn])
    have hzb : (((xs.getD m 0 : Nat) : Int) == 0) = false := by simp only [beq_eq_false_iff_ne]; omega
    have hmc : ((m : Int) + 1 ≤ (c : Int)) := by omega
    clear hz
    generalize xs.getD m 0 = y at *
    go_wp2
    go_ret
    exact ⟨by rw [hlen.out]; rfl, rfl⟩
  ·obtain rfl : n = 0 := by omega
   have HT := Lib.hid (trim_done HOk.out hn hv.out (.inl rfl))
   have hlen : Hid ((natL (val xs)).length = 0) := Lib.hid (by rw [← HT.out]; simp)
   rcases A with _ | ad
   ·go_wp2
    go_ret
    exact ⟨by rw [hlen.out]; rfl, rfl⟩
   ·go_wp2
    go_ret
    exact ⟨by rw [hlen.out]; rfl, rfl⟩
theorem NRet.of {x : Nat} {w w' : World} {A : Option Addr} {c : Nat} {xs : List Nat} (h : RdU w' w'.heap.size A xs) (hx : xs.take (natL x).length = natL x) (hl : (natL x).length ≤ xs.length) (hb : Below w.heap.size w w') : NRet x w (.returned (.slice A (natL x).length c)) w' :=
 ⟨A, c, rfl, by have := h.take hl; rwa [hx] at this, hb⟩
theorem natL_take {xs : List Nat} (hok : okN xs) : xs.take (natL (val xs)).length = natL (val xs) ∧ (natL (val xs)).length ≤ xs.length := by
 have key : ∀ n, n ≤ xs.length → val (xs.take n) = val xs → xs.take (natL (val xs)).length = natL (val xs) ∧ (natL (val xs)).length ≤ xs.length := by
  intro n
  induction n with
  | zero =>
   intro hn hv
   have h := trim_done hok hn hv (.inl rfl)
   have hl : (natL (val xs)).length = 0 := by rw [← h]; simp
   rw [hl, h]
   exact ⟨rfl, Nat.zero_le _⟩
  | succ n ih =>
   intro hn hv
   by_cases hz : xs.getD n 0 = 0
   ·exact ih (by omega) (trim_step hn hv hz)
   ·have h := trim_done hok hn hv (.inr (by simpa using hz))
    have hl : (natL (val xs)).length = n + 1 := by rw [← h, List.length_take, Nat.min_eq_left hn]
    rw [hl, h]
    exact ⟨rfl, hn⟩
 exact key xs.length (Nat.le_refl _) (by rw [List.take_of_length_le (Nat.le_refl _)])
set_option maxHeartbeats 1000000 in
theorem naturalOf_any (n : Nat) (hn : n < 9223372036854775808) (w : World) : Calls Tryz.prog 94 #[.int .i64 (n : Int)] w (NRet n w) := by
 go_enter Tryz.func94, Tryz.ntmps94
 have hm : n % B32 < B32 := Nat.mod_lt _ (by decide)
 have hd : n / B32 < B32 := by unfold B32; omega
 have hok : okN [n % B32, n / B32] := by
  intro x hx
  simp only [List.mem_cons, List.not_mem_nil, or_false] at hx
  rcases hx with rfl | rfl
  ·exact hm
  ·exact hd
 have hv : val [n % B32, n / B32] = n := by
  simp only [val, Nat.mul_zero, Nat.add_zero]
  exact Nat.mod_add_div n B32
 have hW : RdU (w.alloc (.cells #[.int .u32 ((n : Int) % 4294967296), .int .u32 ((n : Int) / 4294967296)] 150)) (w.heap.size + 1) (some ⟨w.heap.size, 0, none⟩) [n % B32, n / B32] := fun _ => by
  refine ⟨w.heap.size, 0, rfl, Nat.lt_succ_self _, fun i hi => ?_⟩
  have hi2 : i < 2 := hi
  have : i = 0 ∨ i = 1 := by omega
  rcases this with rfl | rfl
  ·rw [World.cell?_alloc_new]; simp [B32]
  ·rw [World.cell?_alloc_new]; simp [B32]
 have HT := Lib.hid (trim_any (some ⟨w.heap.size, 0, none⟩) 2 (w.heap.size + 1) [n % B32, n / B32] _ hW hok (by simp) (by simp) (by decide))
 rw [hv] at HT
 have hB : Below w.heap.size w (w.alloc (.cells #[.int .u32 ((n : Int) % 4294967296), .int .u32 ((n : Int) / 4294967296)] 150)) := (Below.refl _ _).alloc (Nat.le_refl _) _
 have hk := natL_take hok
 rw [hv] at hk
 have HR := Lib.hid (NRet.of (x := n) (w := w) (c := 2) (hW.more (by simp)) hk.1 hk.2 hB)
 clear hm hd hok hv hW hB hk
 go_wp2_with fail
 refine HT.out.mono ?_
 rintro e w1 ⟨rfl, rfl⟩
 go_wp2
 go_ret
 exact HR.out
def CmpR (x y : Nat) (r : Int) : Prop := (x < y → r < 0) ∧ (x = y → r = 0) ∧ (y < x → 0 < r)
def CmpRet (x y : Nat) (w : World) (e : Ending) (w' : World) : Prop := ∃ r : Int, e = .returned (.int .i64 r) ∧ CmpR x y r ∧ Drawn w w'
set_option maxHeartbeats 1000000 in
theorem compare_any (x y : Nat) (A A' : Option Addr) (c c' B B' : Nat) (w : World) (hx : RdU w B A (natL x)) (hy : RdU w B' A' (natL y)) (hl : (natL x).length ≤ 10000000) (hl' : (natL y).length ≤ 10000000) :
  Calls Tryz.prog 106 #[.slice A (natL x).length c, .slice A' (natL y).length c'] w (CmpRet x y w) := by
 have HX := Lib.hid hx
 have HY := Lib.hid hy
 have vx := natL_val x
 have vy := natL_val y
 have ox := natL_ok x
 have oy := natL_ok y
 have l1 := @natL_len_lt x y
 have l2 := @natL_len_lt y x
 generalize hxs : natL x = xs at *
 generalize hys : natL y = ys at *
 have HV := Lib.hid (And.intro vx vy)
 have HO := Lib.hid (And.intro ox oy)
 by_cases hlen : xs.length = ys.length
 ·have heq : ((xs.length : Int) != (ys.length : Int)) = false := by simp [hlen]
  have HL := Lib.hid hlen
  have hle : (ys.length : Int) = (xs.length : Int) := by omega
  have HLe := Lib.hid hle
  clear hx hy vx vy ox oy l1 l2 hlen hxs hys hle
  go_enter Tryz.func106, Tryz.ntmps106
  go_wp2
  go_loopw [5] (fun iv wr => ∃ n : Nat, n ≤ xs.length ∧ iv = .int .i64 ((n : Int) - 1) ∧ Hid (∀ j, n ≤ j → j < xs.length → xs.getD j 0 = ys.getD j 0) ∧ Drawn w wr) (fun iv _ => (intOf iv + 1).toNat)
  case atStart => exact ⟨xs.length, Nat.le_refl _, rfl, Lib.hid (fun j h1 h2 => absurd h2 (by omega)), Drawn.refl _⟩
  case round =>
   obtain ⟨n, hn, rfl, he, hD⟩ := hrel
   have HD := Lib.hid hD
   clear hD
   by_cases hpos : 0 < n
   ·obtain ⟨m, rfl⟩ : ∃ m, n = m + 1 := ⟨n - 1, by omega⟩
    obtain ⟨b, off, rfl, _, hc⟩ := (HX.out.below (HD.out.below (B := B)) (Nat.le_refl _)) (by omega)
    obtain ⟨b', off', rfl, _, hc'⟩ := (HY.out.below (HD.out.below (B := B')) (Nat.le_refl _)) (by have := HL.out; omega)
    have g := hc m (by omega)
    have g' := hc' m (by have := HL.out; omega)
    have hmy : m < ys.length := by have := HL.out; omega
    clear hc hc'
    have e1 : (((m + 1 : Nat) : Int) - 1) = (m : Int) := by omega
    rw [e1]
    have i0 : (0 : Int) ≤ (m : Int) := Int.natCast_nonneg _
    have i1 : (m : Int) < (xs.length : Int) := by omega
    have i2 : (m : Int) < (ys.length : Int) := by omega
    clear e1
    by_cases hz : xs.getD m 0 = ys.getD m 0
    ·have HN : Hid (∀ j, m ≤ j → j < xs.length → xs.getD j 0 = ys.getD j 0) := Lib.hid fun j h1 h2 => by
      rcases Nat.lt_or_ge m j with h | h
      ·exact he.out j (by omega) h2
      ·rw [show j = m by omega]; exact hz
     rw [hz] at g
     clear hz
     have hb : (((ys.getD m 0 : Nat) : Int) != ((ys.getD m 0 : Nat) : Int)) = false := by simp
     generalize ys.getD m 0 = y1 at *
     go_wp2
     go_quiet (fail)
     go_wp2
     go_roundw
     case rel => exact ⟨m, by omega, by congr 1, HN, HD.out.next _⟩
     case measure => simp [intOf]
    ·rcases Nat.lt_or_gt_of_ne hz with hlt | hgt
     ·have HR := Lib.hid (cmp_lt (n := m) HL.out HO.out.1 HO.out.2 (by omega) (fun j h1 h2 => he.out j h1 h2) hlt)
      have hb : (((xs.getD m 0 : Nat) : Int) != ((ys.getD m 0 : Nat) : Int)) = true := bne_iff_ne.2 (by omega)
      have hb2 : decide (((xs.getD m 0 : Nat) : Int) < ((ys.getD m 0 : Nat) : Int)) = true := decide_eq_true (by omega)
      have hb3 : decide (xs.getD m 0 < ys.getD m 0) = true := decide_eq_true hlt
      clear hz hlt
      generalize xs.getD m 0 = x1 at *
      generalize ys.getD m 0 = y1 at *
      go_wp2
      go_quiet (fail)
      go_wp2
      go_quiet (fail)
      go_wp2
      go_ret
      exact ⟨-1, rfl, by rw [HV.out.1, HV.out.2] at HR; exact ⟨fun _ => by decide, fun h => absurd h (Nat.ne_of_lt HR.out), fun h => absurd h (Nat.lt_asymm HR.out)⟩, (HD.out.next _).next _⟩
     ·have HR := Lib.hid (cmp_lt (n := m) HL.out.symm HO.out.2 HO.out.1 (by omega) (fun j h1 h2 => (he.out j h1 (by have := HL.out; omega)).symm) hgt)
      have hb : (((xs.getD m 0 : Nat) : Int) != ((ys.getD m 0 : Nat) : Int)) = true := bne_iff_ne.2 (by omega)
      have hb2 : decide (((xs.getD m 0 : Nat) : Int) < ((ys.getD m 0 : Nat) : Int)) = false := decide_eq_false (by omega)
      have hb3 : decide (xs.getD m 0 < ys.getD m 0) = false := decide_eq_false (by omega)
      clear hz hgt
      generalize xs.getD m 0 = x1 at *
      generalize ys.getD m 0 = y1 at *
      go_wp2
      go_quiet (fail)
      go_wp2
      go_quiet (fail)
      go_wp2
      go_ret
      exact ⟨1, rfl, by rw [HV.out.1, HV.out.2] at HR; exact ⟨fun h => absurd h (Nat.lt_asymm HR.out), fun h => absurd h.symm (Nat.ne_of_lt HR.out), fun _ => by decide⟩, (HD.out.next _).next _⟩
   ·obtain rfl : n = 0 := by omega
    have HE := Lib.hid ((val_cmp HL.out HO.out.1 HO.out.2 0 (Nat.zero_le _) he.out).2.2 (by simp))
    go_wp2
    go_ret
    exact ⟨0, rfl, by rw [HV.out.1, HV.out.2] at HE; have := HE.out; exact ⟨fun h => absurd this (Nat.ne_of_lt h), fun _ => rfl, fun h => absurd this.symm (Nat.ne_of_lt h)⟩, HD.out⟩
 ·have heq : ((xs.length : Int) != (ys.length : Int)) = true := by simp; omega
  have HR : Hid (CmpR x y ((xs.length : Int) - (ys.length : Int))) := Lib.hid (by
   rcases Nat.lt_or_gt_of_ne hlen with h | h
   ·have := l1 h
    exact ⟨fun _ => by omega, fun _ => by omega, fun _ => by omega⟩
   ·have := l2 h
    exact ⟨fun _ => by omega, fun _ => by omega, fun _ => by omega⟩)
  clear hx hy vx vy ox oy l1 l2 hlen hxs hys
  go_enter Tryz.func106, Tryz.ntmps106
  go_wp2
  go_ret
  exact ⟨_, rfl, HR.out, Drawn.refl _⟩
theorem u64_or (a b : Nat) (ha : a < 18446744073709551616) (hb : b < 18446744073709551616) : bits .or .u64 (a : Int) (b : Int) = ((a ||| b : Nat) : Int) := by
 have hx : a ||| b < 2 ^ 64 := Nat.or_lt_two_pow (by omega) (by omega)
 have e : ∀ z : Nat, z < 18446744073709551616 → (BitVec.ofInt 64 (z : Int)).toNat = z := fun z hz => by
  rw [BitVec.ofInt_natCast, BitVec.toNat_ofNat]; exact Nat.mod_eq_of_lt (by omega)
 show IntKind.u64.wrap ((BitVec.ofInt 64 (a : Int) ||| BitVec.ofInt 64 (b : Int)).toNat : Int) = _
 rw [BitVec.toNat_or, e a ha, e b hb, IntKind.wrap_u64]
 omega
theorem wrap64_nat (x : Nat) (h : x < 9223372036854775808) : wrap64 (x : Int) = (x : Int) := by
 unfold wrap64
 omega
theorem or_digit (z y : Nat) (hz : z < 4294967296) (hy : y < 4294967296) : bits .or .u64 (z : Int) ((y : Int) * 4294967296) = ((z + 4294967296 * y : Nat) : Int) := by
 have h := u64_or z (y * 4294967296) (by omega) (by omega)
 rw [show ((y * 4294967296 : Nat) : Int) = (y : Int) * 4294967296 by omega] at h
 rw [h]
 have e := Nat.shiftLeft_add_eq_or_of_lt (show z < 2 ^ 32 by omega) y
 rw [Nat.shiftLeft_eq, show (2 : Nat) ^ 32 = 4294967296 from rfl] at e
 rw [Nat.or_comm, ← e, Nat.add_comm z, Nat.mul_comm 4294967296]
set_option maxHeartbeats 1000000 in
theorem small_yes (x : Nat) (A : Option Addr) (c B : Nat) (w : World) (hx : RdU w B A (natL x)) (h : x ≤ 1000000000000000000) :
  Calls Tryz.prog 128 #[.slice A (natL x).length c] w fun e w' => e = .returned (.tuple #[.int .i64 (x : Int), .bool true]) ∧ w = w' := by
 have hlen : (natL x).length ≤ 2 := natL_len_le (by unfold B32; omega)
 have ok := natL_ok x
 have hv := natL_val x
 have HX := Lib.hid hx
 generalize hxs : natL x = xs at *
 have HV := Lib.hid hv
 have HO := Lib.hid ok
 clear hx hv ok hxs
 go_enter Tryz.func128, Tryz.ntmps128
 go_wp2
 go_loop [12, 4] (fun iv nv => ∃ k : Nat, k ≤ xs.length ∧ iv = .int .i64 (k : Int) ∧ nv = .int .u64 ((val (xs.take k) : Nat) : Int)) (fun iv _ => xs.length - (intOf iv).toNat)
 case atStart => exact ⟨0, Nat.zero_le _, rfl, rfl⟩
 case round =>
  obtain ⟨k, hk, rfl, rfl⟩ := hrel
  by_cases hlt : k < xs.length
  ·have hx1 : xs.getD k 0 < B32 := HO.out _ (by simp [List.getD, hlt])
   obtain ⟨b, off, rfl, _, hc⟩ := HX.out (by omega)
   have g := hc k hlt
   clear hc
   have HS := Lib.hid (val_take_succ xs k hlt)
   have hk2 : k = 0 ∨ k = 1 := by omega
   rcases hk2 with rfl | rfl
   ·rw [List.take_zero, show val ([] : List Nat) = 0 from rfl] at HS ⊢
    rw [Nat.add_zero] at g
    unfold B32 at hx1
    generalize xs.getD 0 0 = y at *
    have HO2 := Lib.hid (or_digit 0 y (by decide) hx1)
    have HO1 := Lib.hid (u64_or 0 y (by decide) (by omega))
    go_wp2
    go_round
    case rel => exact ⟨1, by omega, rfl, by rw [HS.out]; have := HO1.out; rw [Nat.zero_or] at this; rw [show ((0 : Nat) : Int) = 0 from rfl] at this; rw [this]; simp⟩
    case measure => simp [intOf]; omega
   ·unfold B32 at hx1
    have hz1 : val (xs.take 1) < B32 := by
     have := val_lt _ (okN_take HO.out 1)
     rw [List.length_take, Nat.min_eq_left (by omega)] at this
     simpa using this
    unfold B32 at hz1
    generalize xs.getD 1 0 = y at *
    generalize val (xs.take 1) = z at *
    have HO2 := Lib.hid (or_digit z y hz1 hx1)
    go_wp2
    go_round
    case rel => exact ⟨2, by omega, rfl, by rw [HS.out, HO2.out]; rfl⟩
    case measure => simp [intOf]; omega
  ·obtain rfl : k = xs.length := by omega
   have hvx : val (xs.take xs.length) = x := by rw [List.take_of_length_le (Nat.le_refl _)]; exact HV.out
   rw [hvx]
   have HA := Lib.hid (u64_and_nat x 9223372036854775807 (by omega) (by decide))
   have hax : x &&& 9223372036854775807 = x := by
    rw [show (9223372036854775807 : Nat) = 2 ^ 63 - 1 from rfl, Nat.and_two_pow_sub_one_eq_mod, Nat.mod_eq_of_lt (by omega)]
   have hw : wrap64 (bits BinOp.and IntKind.u64 (x : Int) 9223372036854775807) = (x : Int) := by
    have h1 := HA.out
    rw [hax] at h1
    rw [show (9223372036854775807 : Int) = ((9223372036854775807 : Nat) : Int) from rfl, h1]
    exact wrap64_nat x (by omega)
   have HX2 := Lib.hid hw
   have hle : decide ((x : Int) ≤ 1000000000000000000) = true := decide_eq_true (by omega)
   clear hvx hax hw
   go_wp2
   go_ret2
   exact ⟨by show Ending.returned (Value.tuple #[.int .i64 (wrap64 (bits BinOp.and IntKind.u64 (x : Int) 9223372036854775807)), .bool true]) = _; rw [HX2.out], rfl⟩
end Go.Proofs.YthagenodiofgnaaGreat.Nat32

/- Small contracts that nearly all walks use: the tests of a range, least and greatest. -/
import Derived.Test.YtpjepheiagllgaaDoorRows
import Derived.WalkKit
import Derived.Lib.Hide
import Derived.Deep.QuietTactic
import Derived.BigQuiet
import Derived.Deep.Draws
import Derived.Below
import Derived.Outline
import Derived.Deep.OwnRows
import Derived.OwnWalk
import Derived.Laws.OwnMore
import Derived.Laws.Rows
import Derived.Maps.AppendAt
namespace Go.Proofs.YtpjepheiagllgaaDoor.Base
open Go.RowKit Go.Proofs.YtpjepheiagllgaaDoor
set_option linter.unusedVariables false
theorem ret_int {k : IntKind} {a b : Int} (h : a = b) : Ending.returned (.int k a) = .returned (.int k b) := by rw [h]
theorem ret_bool {a b : Bool} (h : a = b) : Ending.returned (.bool a) = .returned (.bool b) := by rw [h]
def inR (n lo hi : Int) : Bool := decide (lo ≤ n) && decide (n ≤ hi)
theorem inR_true {n lo hi : Int} (h : inR n lo hi = true) : lo ≤ n ∧ n ≤ hi := by simpa [inR] using h
theorem inR_yes {n lo hi : Int} (h : lo ≤ n ∧ n ≤ hi) : inR n lo hi = true := by simp [inR, h.1, h.2]
theorem inR_no {n lo hi : Int} (h : ¬ (lo ≤ n ∧ n ≤ hi)) : inR n lo hi = false := by
 cases h' : inR n lo hi
 ·rfl
 ·exact absurd (inR_true h') h
theorem below_drewN {B : Nat} {a w : World} (h : Below B a w) (n : Nat) : Below B a (w.drewN n) := ⟨h.os, h.tape, h.output, h.size, h.block⟩
theorem Below.next {B : Nat} {w w1 w2 : World} (h : Below B w w1) (h2 : Below w1.heap.size w1 w2) (hB : B ≤ w.heap.size) : Below B w w2 := h.trans (h2.mono (Nat.le_trans hB h.size))
theorem Below.nextA {w w1 w2 : World} (h : Below w.heap.size w w1) (h2 : Below w1.heap.size w1 w2) : Below w.heap.size w w2 := h.trans (h2.mono h.size)
theorem Below.boxed {w w1 : World} {o : Obj} (h : Below (w.alloc o).heap.size (w.alloc o) w1) : Below w.heap.size w w1 := ((Below.refl _ _).alloc (Nat.le_refl _) _).trans (h.mono (by simp))
end Go.Proofs.YtpjepheiagllgaaDoor.Base
namespace Go.Proofs.YtpjepheiagllgaaDoor.Mem
open Go.RowKit Go.Proofs.YtpjepheiagllgaaDoor Go.Proofs.YtpjepheiagllgaaDoor.Base
set_option linter.unusedVariables false
def marks (k n : Nat) : List Int := (List.range n).map fun i => ((k + i : Nat) : Int)
def mk : Nat → List (List Int) → List (List Int)
 | _, [] => []
 | k, xs :: r => marks k xs.length :: mk (k + xs.length) r
def RdI (w : World) (B : Nat) (A : Option Addr) (xs : List Int) : Prop :=
 0 < xs.length → ∃ b off, A = some ⟨b, off, none⟩ ∧ b < B ∧ ∀ i, i < xs.length → w.cell? ⟨b, off + i, none⟩ = some (.int .i64 (xs.getD i 0))
theorem RdI.below {w w' : World} {B C : Nat} {A : Option Addr} {xs : List Int} (h : RdI w B A xs) (hb : Below C w w') (hBC : B ≤ C) : RdI w' B A xs := fun h0 => by
 obtain ⟨b, off, e, hlt, hc⟩ := h h0
 exact ⟨b, off, e, hlt, fun i hi => (hb.cell (p := ⟨b, off + i, none⟩) (by show b < C; omega)).trans (hc i hi)⟩
theorem RdI.more {w : World} {B C : Nat} {A : Option Addr} {xs : List Int} (h : RdI w B A xs) (hBC : B ≤ C) : RdI w C A xs := fun h0 => by
 obtain ⟨b, off, e, hlt, hc⟩ := h h0
 exact ⟨b, off, e, by omega, hc⟩
theorem RdI.drewN {w : World} {B : Nat} {A : Option Addr} {xs : List Int} (h : RdI w B A xs) (n : Nat) : RdI (w.drewN n) B A xs := h.below (below_drewN (Below.refl B w) n) (Nat.le_refl _)
def ints (xs : List Int) : List Value := xs.map (Value.int .i64)
theorem ints_len (xs : List Int) : (ints xs).length = xs.length := by simp [ints]
theorem ints_get (xs : List Int) (i : Nat) (h : i < xs.length) : (ints xs)[i]? = some (.int .i64 (xs.getD i 0)) := by simp [ints, List.getD, h]
def OwnI (w : World) (B : Nat) (u : Value) (xs : List Int) : Prop := w.ownsRow B 2 1 u xs.length (ints xs)
theorem ownsRow_form {w : World} {base : Nat} {e : TypeId} {size n : Nat} {v : Value} {xs : List Value} (h : w.ownsRow base e size v n xs) : ∃ A c, v = .slice A n c ∧ (0 < n → ∃ g, A = some ⟨g, 0, none⟩ ∧ base ≤ g ∧ g < w.heap.size) := by
 rcases h.2 with ⟨rfl, rfl⟩ | ⟨g, cap, cur, rfl, hb, hh, _⟩
 ·exact ⟨none, 0, rfl, fun h => absurd h (Nat.lt_irrefl 0)⟩
 ·refine ⟨some ⟨g, 0, none⟩, cap, rfl, fun _ => ⟨g, rfl, hb, ?_⟩⟩
  rcases Nat.lt_or_ge g w.heap.size with hlt | hge
  ·exact hlt
  ·rw [Array.getElem?_eq_none hge] at hh; cases hh
theorem ownsRow_below {w w' : World} {base : Nat} {e : TypeId} {size n : Nat} {v : Value} {xs : List Value} (h : w.ownsRow base e size v n xs) (hb : Below w.heap.size w w') : w'.ownsRow base e size v n xs := by
 refine ⟨h.1, ?_⟩
 rcases h.2 with h0 | ⟨g, cap, cur, rfl, h1, hh, h2⟩
 ·exact .inl h0
 ·have hlt : g < w.heap.size := by
   rcases Nat.lt_or_ge g w.heap.size with hlt | hge
   ·exact hlt
   ·rw [Array.getElem?_eq_none hge] at hh; cases hh
  exact .inr ⟨g, cap, cur, rfl, h1, (hb.block g hlt).trans hh, h2⟩
theorem ownsRow_base {w : World} {base base' : Nat} {e : TypeId} {size n : Nat} {v : Value} {xs : List Value} (h : w.ownsRow base e size v n xs) (hb : base' ≤ base) : w.ownsRow base' e size v n xs := by
 refine ⟨h.1, ?_⟩
 rcases h.2 with h0 | ⟨g, cap, cur, rfl, h1, h2⟩
 ·exact .inl h0
 ·exact .inr ⟨g, cap, cur, rfl, by omega, h2⟩
theorem OwnI.rd {w : World} {B n c : Nat} {A : Option Addr} {xs : List Int} (h : OwnI w B (.slice A n c) xs) : RdI w w.heap.size A xs := fun h0 => by
 obtain ⟨A', c', e, hf⟩ := ownsRow_form h
 injection e with e1 e2 e3
 subst e1 e2 e3
 obtain ⟨g, rfl, _, hlt⟩ := hf h0
 refine ⟨g, 0, rfl, hlt, fun i hi => ?_⟩
 rw [Nat.zero_add, World.ownsRow.cellAt h i (by omega), ints_get xs i hi]
theorem OwnI.below {w w' : World} {B : Nat} {u : Value} {xs : List Int} (h : OwnI w B u xs) (hb : Below w.heap.size w w') : OwnI w' B u xs := ownsRow_below h hb
theorem grown_trans {a b c : World} {row : Option Nat} (h : a.grownBy b row) (k : b.grownBy c row) : a.grownBy c row :=
 ⟨k.os.trans h.os, k.tape.trans h.tape, k.output.trans h.output, Nat.le_trans h.size k.size, fun i hi hne => (k.block i (Nat.lt_of_lt_of_le hi h.size) hne).trans (h.block i hi hne)⟩
theorem ownsRow_block {w : World} {base : Nat} {e : TypeId} {size n g : Nat} {v : Value} {xs : List Value} (h : w.ownsRow base e size v n xs) (hg : v.ownBlock = some g) : ∃ cur, w.heap[g]? = some (.cells cur e (0, 0)) ∧ base ≤ g ∧ g < w.heap.size := by
 rcases h.2 with ⟨rfl, _⟩ | ⟨g', cap, cur, rfl, hb, hh, _⟩
 ·simp [Value.ownBlock] at hg
 ·have : g' = g := by simpa [Value.ownBlock] using hg
  subst this
  refine ⟨cur, hh, hb, ?_⟩
  rcases Nat.lt_or_ge g' w.heap.size with hlt | hge
  ·exact hlt
  ·rw [Array.getElem?_eq_none hge] at hh; cases hh
theorem own_ne {w : World} {base base' : Nat} {e e' : TypeId} {size n size' n' : Nat} {v v' : Value} {xs xs' : List Value} (h : w.ownsRow base e size v n xs) (h' : w.ownsRow base' e' size' v' n' xs') (hne : e ≠ e') : v.ownBlock = none ∨ v.ownBlock ≠ v'.ownBlock := by
 rcases hv : v.ownBlock with _ | g
 ·exact .inl rfl
 ·refine .inr fun e1 => ?_
  obtain ⟨cur, h1, _⟩ := ownsRow_block h hv
  obtain ⟨cur', h2, _⟩ := ownsRow_block h' e1.symm
  rw [h1] at h2
  injection h2 with h2
  injection h2 with _ ht
  exact hne ht
theorem grown_below {B : Nat} {w w' : World} {row : Option Nat} (h : w.grownBy w' row) (hr : ∀ g, row = some g → B ≤ g) (hB : B ≤ w.heap.size) : Below B w w' := (Below.refl B w).grown h hB hr
def mixed (k : Nat) (xss : List (List Int)) (j : Nat) : List (List Int) := (mk k xss).take j ++ xss.drop j
theorem news_one (w : World) (u : Value) (t : TypeId) {g : Nat} (hg : g = w.heap.size) : ∀ (j : Nat) (x : Value), [u][j]? = some x → (w.alloc (.cells #[u] t)).cell? ((⟨g, 0, none⟩ : Addr).add j) = some x := by
 subst hg
 intro j x hx
 match j with
 | 0 =>
  have : u = x := by simpa using hx
  subst this
  exact World.cell?_alloc_new w #[u] t 0
 | j + 1 => simp at hx
def RdB (w : World) (B : Nat) (A : Option Addr) (zs : List Int) : Prop :=
 0 < zs.length → ∃ b off, A = some ⟨b, off, none⟩ ∧ b < B ∧ ∀ i, i < zs.length → w.cell? ⟨b, off + i, none⟩ = some (.int .u8 (zs.getD i 0))
theorem RdB.below {w w' : World} {B C : Nat} {A : Option Addr} {xs : List Int} (h : RdB w B A xs) (hb : Below C w w') (hBC : B ≤ C) : RdB w' B A xs := fun h0 => by
 obtain ⟨b, off, e, hlt, hc⟩ := h h0
 exact ⟨b, off, e, hlt, fun i hi => (hb.cell (p := ⟨b, off + i, none⟩) (by show b < C; omega)).trans (hc i hi)⟩
theorem RdB.more {w : World} {B C : Nat} {A : Option Addr} {xs : List Int} (h : RdB w B A xs) (hBC : B ≤ C) : RdB w C A xs := fun h0 => by
 obtain ⟨b, off, e, hlt, hc⟩ := h h0
 exact ⟨b, off, e, by omega, hc⟩
theorem RdB.drewN {w : World} {B : Nat} {A : Option Addr} {xs : List Int} (h : RdB w B A xs) (n : Nat) : RdB (w.drewN n) B A xs := h.below (below_drewN (Below.refl B w) n) (Nat.le_refl _)
end Go.Proofs.YtpjepheiagllgaaDoor.Mem

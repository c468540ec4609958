/- Small contracts that nearly all walks use: the tests of a range, least and greatest. -/
import Derived.Test.YthagenodiofgnaaGreatDoorRows
import Derived.WalkKit
import Derived.Lib.Hide
import Derived.Deep.QuietTactic
import Derived.BigQuiet
import Derived.Deep.Draws
import Derived.Below
import Derived.Outline
import Derived.Deep.OwnRows
import Derived.OwnWalk
import Derived.Laws.OwnMore
import Derived.Laws.Rows
import Derived.Maps.AppendAt
import Derived.Laws.BitsAllLaws
import Derived.IntWalk
namespace Go.Proofs.YthagenodiofgnaaGreatDoor.Base
open Go.RowKit Go.Proofs.YthagenodiofgnaaGreatDoor
set_option linter.unusedVariables false
theorem ret_int {k : IntKind} {a b : Int} (h : a = b) : Ending.returned (.int k a) = .returned (.int k b) := by rw [h]
theorem ret_bool {a b : Bool} (h : a = b) : Ending.returned (.bool a) = .returned (.bool b) := by rw [h]
def inR (n lo hi : Int) : Bool := decide (lo ≤ n) && decide (n ≤ hi)
theorem inR_true {n lo hi : Int} (h : inR n lo hi = true) : lo ≤ n ∧ n ≤ hi := by simpa [inR] using h
theorem inR_yes {n lo hi : Int} (h : lo ≤ n ∧ n ≤ hi) : inR n lo hi = true := by simp [inR, h.1, h.2]
theorem inRange_any (n lo hi : Int) (w : World) :
  Calls Tryz.prog 19 #[.int .i64 n, .int .i64 lo, .int .i64 hi] w fun e w' => e = .returned (.bool (inR n lo hi)) ∧ w = w' := by
 by_cases h1 : lo ≤ n
 all_goals by_cases h2 : n ≤ hi
 all_goals
  go_enter Tryz.func19, Tryz.ntmps19
  go_wp2
  go_ret
  exact ⟨ret_bool (by simp [inR, h1, h2]), rfl⟩
theorem l00In_any (n lo hi : Int) (w : World) :
  Calls Tryz.prog 22 #[.int .i64 n, .int .i64 lo, .int .i64 hi] w fun e w' => e = .returned (.bool (inR n lo hi)) ∧ w = w' := by
 by_cases h1 : lo ≤ n
 all_goals by_cases h2 : n ≤ hi
 all_goals
  go_enter Tryz.func22, Tryz.ntmps22
  go_wp2
  go_ret
  exact ⟨ret_bool (by simp [inR, h1, h2]), rfl⟩
theorem inRange_q (n lo hi : Int) (w : World) :
  Calls Tryz.prog 19 #[.int .i64 n, .int .i64 lo, .int .i64 hi] w fun e w' => e = .returned (.bool (inR n lo hi)) ∧ w' = w :=
 (inRange_any n lo hi w).mono fun _ _ h => ⟨h.1, h.2.symm⟩
theorem l00In_q (n lo hi : Int) (w : World) :
  Calls Tryz.prog 22 #[.int .i64 n, .int .i64 lo, .int .i64 hi] w fun e w' => e = .returned (.bool (inR n lo hi)) ∧ w' = w :=
 (l00In_any n lo hi w).mono fun _ _ h => ⟨h.1, h.2.symm⟩
theorem inRange_qb {n lo hi : Int} {r : Bool} (h : inR n lo hi = r) (w : World) :
  Calls Tryz.prog 19 #[.int .i64 n, .int .i64 lo, .int .i64 hi] w fun e w' => e = .returned (.bool r) ∧ w' = w := by
 subst h; exact inRange_q n lo hi w
theorem l00In_qb {n lo hi : Int} {r : Bool} (h : inR n lo hi = r) (w : World) :
  Calls Tryz.prog 22 #[.int .i64 n, .int .i64 lo, .int .i64 hi] w fun e w' => e = .returned (.bool r) ∧ w' = w := by
 subst h; exact l00In_q n lo hi w
theorem bcell {W w1 : World} (hb : Below W.heap.size W w1) : (∀ b o, b < W.heap.size → w1.cell? ⟨b, o, none⟩ = W.cell? ⟨b, o, none⟩) ∧ (∀ b o, b < W.heap.size → w1.frozen? ⟨b, o, none⟩ = W.frozen? ⟨b, o, none⟩) :=
 ⟨fun b o h => hb.cell (p := ⟨b, o, none⟩) h, fun b o h => hb.frozen (p := ⟨b, o, none⟩) h⟩
theorem below_drewN {B : Nat} {a w : World} (h : Below B a w) (n : Nat) : Below B a (w.drewN n) := ⟨h.os, h.tape, h.output, h.size, h.block⟩
theorem box_cells {w wX : World} {cs : Array Value} {T : TypeId} (h : Below (w.alloc (.cells cs T)).heap.size (w.alloc (.cells cs T)) wX) (i : Nat) : wX.cell? ⟨w.heap.size, i, none⟩ = cs[i]? := by
 rw [h.cell (p := ⟨w.heap.size, i, none⟩) (by simp)]
 exact World.cell?_alloc_new w cs T i
theorem Below.next {B : Nat} {w w1 w2 : World} (h : Below B w w1) (h2 : Below w1.heap.size w1 w2) (hB : B ≤ w.heap.size) : Below B w w2 := h.trans (h2.mono (Nat.le_trans hB h.size))
theorem Below.nextA {w w1 w2 : World} (h : Below w.heap.size w w1) (h2 : Below w1.heap.size w1 w2) : Below w.heap.size w w2 := h.trans (h2.mono h.size)
theorem Below.boxed {w w1 : World} {o : Obj} (h : Below (w.alloc o).heap.size (w.alloc o) w1) : Below w.heap.size w w1 := ((Below.refl _ _).alloc (Nat.le_refl _) _).trans (h.mono (by simp))
theorem wp_region_below {P : Program} {id : Nat} {Q : Exit → Act → World → Prop} {a : Act} {w : World} {l : List Oper} (hm : P.follows .mixedOrders = true) (hB : Region.lexB .any l.toArray = true)
  (h : wpQuiet P l.toArray (Below w.heap.size w) (fun a' => ∀ w', Below w.heap.size w w' → Q .normal a' w') l a) : (Code.region id l.toArray true).wp P Q a w :=
 wp_region_quiet (C := Below w.heap.size w) hm hB ((Below.refl w.heap.size w).drew) (by simpa using h)
attribute [irreducible] inR
end Go.Proofs.YthagenodiofgnaaGreatDoor.Base
namespace Go.Proofs.YthagenodiofgnaaGreatDoor.Mem
open Go.RowKit Go.Proofs.YthagenodiofgnaaGreatDoor Go.Proofs.YthagenodiofgnaaGreatDoor.Base
set_option linter.unusedVariables false
def marks (k n : Nat) : List Int := (List.range n).map fun i => ((k + i : Nat) : Int)
def mk : Nat → List (List Int) → List (List Int)
 | _, [] => []
 | k, xs :: r => marks k xs.length :: mk (k + xs.length) r
def RdI (w : World) (B : Nat) (A : Option Addr) (xs : List Int) : Prop :=
 0 < xs.length → ∃ b off, A = some ⟨b, off, none⟩ ∧ b < B ∧ ∀ i, i < xs.length → w.cell? ⟨b, off + i, none⟩ = some (.int .i64 (xs.getD i 0))
theorem RdI.below {w w' : World} {B C : Nat} {A : Option Addr} {xs : List Int} (h : RdI w B A xs) (hb : Below C w w') (hBC : B ≤ C) : RdI w' B A xs := fun h0 => by
 obtain ⟨b, off, e, hlt, hc⟩ := h h0
 exact ⟨b, off, e, hlt, fun i hi => (hb.cell (p := ⟨b, off + i, none⟩) (by show b < C; omega)).trans (hc i hi)⟩
theorem RdI.more {w : World} {B C : Nat} {A : Option Addr} {xs : List Int} (h : RdI w B A xs) (hBC : B ≤ C) : RdI w C A xs := fun h0 => by
 obtain ⟨b, off, e, hlt, hc⟩ := h h0
 exact ⟨b, off, e, by omega, hc⟩
theorem RdI.drewN {w : World} {B : Nat} {A : Option Addr} {xs : List Int} (h : RdI w B A xs) (n : Nat) : RdI (w.drewN n) B A xs := h.below (below_drewN (Below.refl B w) n) (Nat.le_refl _)
def Drawn (w w' : World) : Prop := ∃ m, w' = w.drewN m
theorem Drawn.refl (w : World) : Drawn w w := ⟨0, rfl⟩
theorem Drawn.next {w w' : World} (h : Drawn w w') (n : Nat) : Drawn w (w'.drewN n) := by
 obtain ⟨m, rfl⟩ := h
 exact ⟨m + n, by rw [World.drewN_drewN]⟩
theorem Drawn.below {B : Nat} {w w' : World} (h : Drawn w w') : Below B w w' := by
 obtain ⟨m, rfl⟩ := h
 exact below_drewN (Below.refl _ _) m
def ints (xs : List Int) : List Value := xs.map (Value.int .i64)
theorem ints_len (xs : List Int) : (ints xs).length = xs.length := by simp [ints]
theorem ints_get (xs : List Int) (i : Nat) (h : i < xs.length) : (ints xs)[i]? = some (.int .i64 (xs.getD i 0)) := by simp [ints, List.getD, h]
def OwnI (w : World) (B : Nat) (u : Value) (xs : List Int) : Prop := w.ownsRow B 2 1 u xs.length (ints xs)
theorem ownsRow_form {w : World} {base : Nat} {e : TypeId} {size n : Nat} {v : Value} {xs : List Value} (h : w.ownsRow base e size v n xs) : ∃ A c, v = .slice A n c ∧ (0 < n → ∃ g, A = some ⟨g, 0, none⟩ ∧ base ≤ g ∧ g < w.heap.size) := by
 rcases h.2 with ⟨rfl, rfl⟩ | ⟨g, cap, cur, rfl, hb, hh, _⟩
 ·exact ⟨none, 0, rfl, fun h => absurd h (Nat.lt_irrefl 0)⟩
 ·refine ⟨some ⟨g, 0, none⟩, cap, rfl, fun _ => ⟨g, rfl, hb, ?_⟩⟩
  rcases Nat.lt_or_ge g w.heap.size with hlt | hge
  ·exact hlt
  ·rw [Array.getElem?_eq_none hge] at hh; cases hh
theorem ownsRow_below {w w' : World} {base : Nat} {e : TypeId} {size n : Nat} {v : Value} {xs : List Value} (h : w.ownsRow base e size v n xs) (hb : Below w.heap.size w w') : w'.ownsRow base e size v n xs := by
 refine ⟨h.1, ?_⟩
 rcases h.2 with h0 | ⟨g, cap, cur, rfl, h1, hh, h2⟩
 ·exact .inl h0
 ·have hlt : g < w.heap.size := by
   rcases Nat.lt_or_ge g w.heap.size with hlt | hge
   ·exact hlt
   ·rw [Array.getElem?_eq_none hge] at hh; cases hh
  exact .inr ⟨g, cap, cur, rfl, h1, (hb.block g hlt).trans hh, h2⟩
theorem ownsRow_base {w : World} {base base' : Nat} {e : TypeId} {size n : Nat} {v : Value} {xs : List Value} (h : w.ownsRow base e size v n xs) (hb : base' ≤ base) : w.ownsRow base' e size v n xs := by
 refine ⟨h.1, ?_⟩
 rcases h.2 with h0 | ⟨g, cap, cur, rfl, h1, h2⟩
 ·exact .inl h0
 ·exact .inr ⟨g, cap, cur, rfl, by omega, h2⟩
theorem OwnI.rd {w : World} {B n c : Nat} {A : Option Addr} {xs : List Int} (h : OwnI w B (.slice A n c) xs) : RdI w w.heap.size A xs := fun h0 => by
 obtain ⟨A', c', e, hf⟩ := ownsRow_form h
 injection e with e1 e2 e3
 subst e1 e2 e3
 obtain ⟨g, rfl, _, hlt⟩ := hf h0
 refine ⟨g, 0, rfl, hlt, fun i hi => ?_⟩
 rw [Nat.zero_add, World.ownsRow.cellAt h i (by omega), ints_get xs i hi]
theorem OwnI.form {w : World} {B : Nat} {u : Value} {xs : List Int} (h : OwnI w B u xs) : ∃ A c, u = .slice A xs.length c ∧ (0 < xs.length → ∃ g, A = some ⟨g, 0, none⟩ ∧ B ≤ g ∧ g < w.heap.size) := ownsRow_form h
theorem OwnI.below {w w' : World} {B : Nat} {u : Value} {xs : List Int} (h : OwnI w B u xs) (hb : Below w.heap.size w w') : OwnI w' B u xs := ownsRow_below h hb
theorem grown_trans {a b c : World} {row : Option Nat} (h : a.grownBy b row) (k : b.grownBy c row) : a.grownBy c row :=
 ⟨k.os.trans h.os, k.tape.trans h.tape, k.output.trans h.output, Nat.le_trans h.size k.size, fun i hi hne => (k.block i (Nat.lt_of_lt_of_le hi h.size) hne).trans (h.block i hi hne)⟩
theorem ints_set (xs : List Int) (i : Nat) (x : Int) : (ints xs).set i (.int .i64 x) = ints (xs.set i x) := by simp [ints, List.map_set]
theorem ownsRow_block {w : World} {base : Nat} {e : TypeId} {size n g : Nat} {v : Value} {xs : List Value} (h : w.ownsRow base e size v n xs) (hg : v.ownBlock = some g) : ∃ cur, w.heap[g]? = some (.cells cur e (0, 0)) ∧ base ≤ g ∧ g < w.heap.size := by
 rcases h.2 with ⟨rfl, _⟩ | ⟨g', cap, cur, rfl, hb, hh, _⟩
 ·simp [Value.ownBlock] at hg
 ·have : g' = g := by simpa [Value.ownBlock] using hg
  subst this
  refine ⟨cur, hh, hb, ?_⟩
  rcases Nat.lt_or_ge g' w.heap.size with hlt | hge
  ·exact hlt
  ·rw [Array.getElem?_eq_none hge] at hh; cases hh
theorem grown_below {B : Nat} {w w' : World} {row : Option Nat} (h : w.grownBy w' row) (hr : ∀ g, row = some g → B ≤ g) (hB : B ≤ w.heap.size) : Below B w w' := (Below.refl B w).grown h hB hr
def mixed (k : Nat) (xss : List (List Int)) (j : Nat) : List (List Int) := (mk k xss).take j ++ xss.drop j
theorem infoI : (Tryz.prog.info? 2).map (fun i => (i.zero, i.size, i.bytes)) = some (some (.int .i64 0), 1, 8) := by kernel_rfl
theorem own_lit (w : World) {B : Nat} (hB : B ≤ w.heap.size) (xs : List Int) (hm : xs.length ≤ maxLen) : (w.alloc (.cells (ints xs).toArray 2)).ownsRow B 2 1 (.slice (some ⟨w.heap.size, 0, none⟩) xs.length xs.length) xs.length (ints xs) := by
 have := World.ownsRow_lit (e := 2) (size := 1) (base := B) w (ints xs).toArray xs.length hB hm (by simp [ints_len])
 simpa using this
theorem news_one (w : World) (u : Value) (t : TypeId) {g : Nat} (hg : g = w.heap.size) : ∀ (j : Nat) (x : Value), [u][j]? = some x → (w.alloc (.cells #[u] t)).cell? ((⟨g, 0, none⟩ : Addr).add j) = some x := by
 subst hg
 intro j x hx
 match j with
 | 0 =>
  have : u = x := by simpa using hx
  subst this
  exact World.cell?_alloc_new w #[u] t 0
 | j + 1 => simp at hx
theorem one_int {k : IntKind} {n : Int} : ∀ u ∈ [Value.int k n], u.oneCell' = true := by
 intro u hu
 simp only [List.mem_singleton] at hu
 subst hu; rfl
def RdB (w : World) (B : Nat) (A : Option Addr) (zs : List Int) : Prop :=
 0 < zs.length → ∃ b off, A = some ⟨b, off, none⟩ ∧ b < B ∧ ∀ i, i < zs.length → w.cell? ⟨b, off + i, none⟩ = some (.int .u8 (zs.getD i 0))
theorem RdB.below {w w' : World} {B C : Nat} {A : Option Addr} {xs : List Int} (h : RdB w B A xs) (hb : Below C w w') (hBC : B ≤ C) : RdB w' B A xs := fun h0 => by
 obtain ⟨b, off, e, hlt, hc⟩ := h h0
 exact ⟨b, off, e, hlt, fun i hi => (hb.cell (p := ⟨b, off + i, none⟩) (by show b < C; omega)).trans (hc i hi)⟩
theorem RdB.more {w : World} {B C : Nat} {A : Option Addr} {xs : List Int} (h : RdB w B A xs) (hBC : B ≤ C) : RdB w C A xs := fun h0 => by
 obtain ⟨b, off, e, hlt, hc⟩ := h h0
 exact ⟨b, off, e, by omega, hc⟩
theorem RdB.drewN {w : World} {B : Nat} {A : Option Addr} {xs : List Int} (h : RdB w B A xs) (n : Nat) : RdB (w.drewN n) B A xs := h.below (below_drewN (Below.refl B w) n) (Nat.le_refl _)
end Go.Proofs.YthagenodiofgnaaGreatDoor.Mem
namespace Go.Proofs.YthagenodiofgnaaGreatDoor.Src
open Go.RowKit Go.Proofs.YthagenodiofgnaaGreatDoor Go.Proofs.YthagenodiofgnaaGreatDoor.Base Go.Proofs.YthagenodiofgnaaGreatDoor.Mem
set_option linter.unusedVariables false
structure Src (w : World) (p K : Nat) : Prop where
 ex : ∃ (A : Option Addr) (c : Nat) (zs : List Int) (at_ : Nat) (sd : Int), w.cell? ⟨p, 0, none⟩ = some (.slice A zs.length c) ∧ w.cell? ⟨p, 1, none⟩ = some (.int .i64 (at_ : Int)) ∧ w.cell? ⟨p, 2, none⟩ = some (.int .u64 sd) ∧
  (∀ i, w.frozen? ⟨p, i, none⟩ = false) ∧ at_ ≤ K ∧ 0 ≤ sd ∧ sd ≤ 18446744073709551615 ∧ zs.length ≤ 9223372036854775807 ∧ (∀ z ∈ zs, 0 ≤ z ∧ z ≤ 255) ∧ RdB w p A zs
theorem Src.lt {w : World} {p K : Nat} (h : Src w p K) : p < w.heap.size := by
 obtain ⟨A, c, zs, a, sd, h0, _⟩ := h.ex
 exact block_lt_of_cell h0
theorem RdB.keep {w w' : World} {B p : Nat} {A : Option Addr} {zs : List Int} (h : RdB w B A zs) (hB : B ≤ p) (hw : ∀ g, g < B → w'.heap[g]? = w.heap[g]?) : RdB w' B A zs := fun h0 => by
 obtain ⟨b, off, e, hlt, hc⟩ := h h0
 exact ⟨b, off, e, hlt, fun i hi => (World.cell?_of_block (a := ⟨b, off + i, none⟩) (hw b hlt)).trans (hc i hi)⟩
theorem Src.below {w w' : World} {p K : Nat} (h : Src w p K) (hb : Below w.heap.size w w') : Src w' p K := by
 have hp := h.lt
 obtain ⟨A, c, zs, a, sd, h0, h1, h2, hf, h3, h4, h5, h6, h7, h8⟩ := h.ex
 exact ⟨A, c, zs, a, sd, (hb.cell (p := ⟨p, 0, none⟩) hp).trans h0, (hb.cell (p := ⟨p, 1, none⟩) hp).trans h1, (hb.cell (p := ⟨p, 2, none⟩) hp).trans h2, fun i => (hb.frozen (p := ⟨p, i, none⟩) hp).trans (hf i), h3, h4, h5, h6, h7, h8.below hb (by omega)⟩
theorem Src.kept {w w' : World} {p K : Nat} {row : Option Nat} (h : Src w p K) (hg : w.grownBy w' row) (hr : ∀ g, row = some g → p < g) : Src w' p K := by
 have hp := h.lt
 have hk : ∀ g, g ≤ p → w'.heap[g]? = w.heap[g]? := fun g hgp => hg.block g (by omega) fun e => by have := hr g e.symm; omega
 obtain ⟨A, c, zs, a, sd, h0, h1, h2, hf, h3, h4, h5, h6, h7, h8⟩ := h.ex
 have hc : ∀ i, w'.cell? ⟨p, i, none⟩ = w.cell? ⟨p, i, none⟩ := fun i => World.cell?_of_block (a := ⟨p, i, none⟩) (hk p (Nat.le_refl _))
 exact ⟨A, c, zs, a, sd, (hc 0).trans h0, (hc 1).trans h1, (hc 2).trans h2, fun i => (World.frozen?_of_block (a := ⟨p, i, none⟩) (hk p (Nat.le_refl _))).trans (hf i), h3, h4, h5, h6, h7, RdB.keep h8 (Nat.le_refl _) fun g hg => hk g (by omega)⟩
theorem Src.more {w : World} {p K L : Nat} (h : Src w p K) (hKL : K ≤ L) : Src w p L := by
 obtain ⟨A, c, zs, a, sd, h0, h1, h2, hf, h3, h4⟩ := h.ex
 exact ⟨A, c, zs, a, sd, h0, h1, h2, hf, by omega, h4⟩
theorem grown_setCell (w : World) (a : Addr) (v : Value) : w.grownBy (w.setCell a v) (some a.block) := by
 refine ⟨rfl, rfl, rfl, by simp, fun k hk hne => ?_⟩
 have : k ≠ a.block := fun e => hne (by rw [e])
 simp [World.setCell, Array.getElem?_modify, Ne.symm this]
theorem grown_drewN (w : World) (n : Nat) (row : Option Nat) : w.grownBy (w.drewN n) row := ⟨rfl, rfl, rfl, Nat.le_refl _, fun _ _ _ => rfl⟩
theorem and255 (x : Int) (h0 : 0 ≤ x) (h : x ≤ 18446744073709551615) : bits .and .u64 x 255 = x % 256 := by
 have := u64_and_nat x.toNat 255 (by omega) (by omega)
 rw [show (255 : Nat) = 2 ^ 8 - 1 from rfl, Nat.and_two_pow_sub_one_eq_mod] at this
 have e : (x.toNat : Int) = x := by omega
 rw [e, show ((2 ^ 8 - 1 : Nat) : Int) = 255 from rfl] at this
 rw [this]; omega
theorem u64_rng (x : Int) : 0 ≤ IntKind.u64.wrap x ∧ IntKind.u64.wrap x ≤ 18446744073709551615 := by
 rw [IntKind.wrap_u64]; omega
def NextRet (p K m : Nat) (w : World) (e : Ending) (w' : World) : Prop := ∃ r : Nat, e = .returned (.int .i64 r) ∧ r < m ∧ Src w' p K ∧ w.grownBy w' (some p)
theorem Src.set {w : World} {p K L a2 : Nat} {sd2 : Int} (h : Src w p K) (hL : a2 ≤ L) (hs : 0 ≤ sd2 ∧ sd2 ≤ 18446744073709551615) : Src ((w.setCell ⟨p, 1, none⟩ (.int .i64 (a2 : Int))).setCell ⟨p, 2, none⟩ (.int .u64 sd2)) p L ∧
  w.grownBy ((w.setCell ⟨p, 1, none⟩ (.int .i64 (a2 : Int))).setCell ⟨p, 2, none⟩ (.int .u64 sd2)) (some p) := by
 have hg := grown_trans (grown_setCell w ⟨p, 1, none⟩ (.int .i64 (a2 : Int))) (grown_setCell _ ⟨p, 2, none⟩ (.int .u64 sd2))
 refine ⟨?_, hg⟩
 obtain ⟨A, c, zs, a, sd, h0, h1, h2, hf, h3, h4, h5, h6, h7, h8⟩ := h.ex
 refine ⟨A, c, zs, a2, sd2, ?_, ?_, ?_, fun i => by simpa using hf i, hL, hs.1, hs.2, h6, h7, ?_⟩
 ·rw [World.cell?_setCell_other _ _ _ _ (by simp), World.cell?_setCell_other _ _ _ _ (by simp)]; exact h0
 ·rw [World.cell?_setCell_other _ _ _ _ (by simp)]; exact World.cell?_setCell_same _ _ _ h1
 ·refine World.cell?_setCell_same (u := .int .u64 sd) _ _ _ ?_
  rw [World.cell?_setCell_other _ _ _ _ (by simp)]; exact h2
 ·exact RdB.keep h8 (Nat.le_refl _) fun g hgp => hg.block g (by have := h.lt; omega) fun e => by
   have : g = p := Option.some.inj e
   omega
theorem Src.put {w : World} {p K L a a2 n : Nat} {sd2 : Int} {v : Value} (h : Src w p K) (hv : w.cell? ⟨p, 0, none⟩ = some v) (hL : a2 ≤ L) (hs : 0 ≤ sd2 ∧ sd2 ≤ 18446744073709551615) (w2 : World) (h2 : ((w.drewN n).setCell ⟨p, 1, none⟩ (.int .i64 (a2 : Int))).setCell ⟨p, 2, none⟩ (.int .u64 sd2) = w2) :
  Src w2 p L ∧ w.grownBy w2 (some p) ∧ w2.cell? ⟨p, 0, none⟩ = some v ∧ w2.cell? ⟨p, 1, none⟩ = some (.int .i64 (a2 : Int)) ∧ w2.cell? ⟨p, 2, none⟩ = some (.int .u64 sd2) := by
 have hd : Src (w.drewN n) p K := h.below (below_drewN (Below.refl _ _) n)
 obtain ⟨g1, g2⟩ := hd.set hL hs
 rw [h2] at g1 g2
 refine ⟨g1, grown_trans (grown_drewN w n _) g2, ?_, ?_, ?_⟩
 all_goals subst h2
 ·rw [World.cell?_setCell_other _ _ _ _ (by simp), World.cell?_setCell_other _ _ _ _ (by simp)]; simpa using hv
 ·obtain ⟨A, c, zs, a', sd, _, h1, _⟩ := hd.ex
  rw [World.cell?_setCell_other _ _ _ _ (by simp)]; exact World.cell?_setCell_same _ _ _ h1
 ·obtain ⟨A, c, zs, a', sd, _, _, h1, _⟩ := hd.ex
  refine World.cell?_setCell_same (u := .int .u64 sd) _ _ _ ?_
  rw [World.cell?_setCell_other _ _ _ _ (by simp)]; exact h1
set_option maxHeartbeats 1000000 in
set_option maxRecDepth 100000 in
theorem next_any (p K : Nat) (w : World) (h : Src w p K) (hK : K ≤ 1099511627776) :
  Calls Tryz.prog 66 #[.pointer (some ⟨p, 0, none⟩)] w (NextRet p (K + 1) 256 w) := by
 have HS := Lib.hid h
 obtain ⟨A, c, zs, a, sd, h0, h1, h2, hf, h3, h4, h5, h6, h7, h8⟩ := h.ex
 have f0 := hf 0
 have f1 := hf 1
 have f2 := hf 2
 have HP := Lib.hid (fun n sd2 w2 hs => h.put (L := K + 1) (a := 0) (a2 := a + 1) (n := n) (sd2 := sd2) h0 (by omega) hs w2)
 have HU := Lib.hid u64_rng
 have hal : (a : Int) + 1 ≤ 1099511627777 := by omega
 by_cases hlt : a < zs.length
 ·obtain ⟨b, off, rfl, hbp, hc⟩ := h8 (by omega)
  have g := hc a hlt
  have hz := h7 (zs.getD a 0) (by simp [List.getD, hlt])
  have hbne : b ≠ p := by omega
  clear hc h7 h8 hf h
  generalize zs.getD a 0 = z at *
  obtain ⟨z0, z1⟩ := hz
  go_enter Tryz.func66, Tryz.ntmps66
  go_wp2
  go_quiet (fail)
  go_wp2
  go_quiet (fail)
  go_wp2
  have HR := Lib.hid (HU.out (IntKind.u64.wrap (IntKind.u64.wrap (sd * 6364136223846793005) + z) + 1442695040888963407))
  generalize IntKind.u64.wrap (IntKind.u64.wrap (IntKind.u64.wrap (sd * 6364136223846793005) + z) + 1442695040888963407) = sd2 at *
  generalize IntKind.u64.wrap (IntKind.u64.wrap (sd * 6364136223846793005) + z) = sd3 at *
  generalize IntKind.u64.wrap (sd * 6364136223846793005) = sd4 at *
  rw [show (a : Int) + 1 = ((a + 1 : Nat) : Int) by omega]
  generalize hw2 : ((w.drewN _).setCell ⟨p, 1, none⟩ _).setCell ⟨p, 2, none⟩ _ = w2
  obtain ⟨s2, gr, q0, q1, q2⟩ := HP.out _ _ _ HR.out hw2
  have HS2 := Lib.hid s2
  have HG := Lib.hid gr
  clear s2 gr hw2 h0 h1 h2 f0 f1 f2 g
  have hle : a + 1 ≤ zs.length := by omega
  obtain ⟨a1, ha1⟩ : ∃ a1, a1 = a + 1 := ⟨_, rfl⟩
  rw [← ha1] at q1 hle ⊢
  have HA1 := Lib.hid ha1
  clear ha1
  go_quiet (fail)
  go_wp2
  go_ret
  obtain ⟨Z, rfl⟩ := Int.eq_ofNat_of_zero_le z0
  exact ⟨Z, rfl, by omega, HS2.out.below (below_drewN (Below.refl _ _) _), grown_trans HG.out (grown_drewN _ _ _)⟩
 ·clear h7 h8 hf h
  go_enter Tryz.func66, Tryz.ntmps66
  go_wp2
  go_quiet (fail)
  go_wp2
  have HR := Lib.hid (HU.out (IntKind.u64.wrap (IntKind.u64.wrap (sd * 6364136223846793005)) + 1442695040888963407))
  generalize IntKind.u64.wrap (IntKind.u64.wrap (IntKind.u64.wrap (sd * 6364136223846793005)) + 1442695040888963407) = sd2 at *
  generalize IntKind.u64.wrap (IntKind.u64.wrap (sd * 6364136223846793005)) = sd3 at *
  generalize IntKind.u64.wrap (sd * 6364136223846793005) = sd4 at *
  rw [show (a : Int) + 1 = ((a + 1 : Nat) : Int) by omega]
  generalize hw2 : ((w.drewN _).setCell ⟨p, 1, none⟩ _).setCell ⟨p, 2, none⟩ _ = w2
  obtain ⟨s2, gr, q0, q1, q2⟩ := HP.out _ _ _ HR.out hw2
  have HS2 := Lib.hid s2
  have HG := Lib.hid gr
  clear s2 gr hw2 h0 h1 h2 f0 f1 f2
  have hle : ¬ a + 1 ≤ zs.length := by omega
  obtain ⟨a1, ha1⟩ : ∃ a1, a1 = a + 1 := ⟨_, rfl⟩
  rw [← ha1] at q1 hle ⊢
  have HA1 := Lib.hid ha1
  clear ha1
  obtain ⟨r0, r1⟩ := HR.out
  have hq := and255 (sd2 / 1099511627776) (by omega) (by omega)
  have HQ := Lib.hid hq
  clear hq
  go_quiet (fail)
  go_wp2
  go_ret
  refine ⟨(sd2 / 1099511627776 % 256).toNat, ret_int ?_, by omega, HS2.out.below (below_drewN (Below.refl _ _) _), grown_trans HG.out (grown_drewN _ _ _)⟩
  rw [HQ.out]
  simp only [wrap64]; omega
def PickRet (p K : Nat) (n : Int) (w : World) (e : Ending) (w' : World) : Prop := ∃ r : Nat, e = .returned (.int .i64 r) ∧ (r = 0 ∨ (r : Int) < n) ∧ Src w' p K ∧ w.grownBy w' (some p)
set_option maxHeartbeats 1000000 in
theorem pick_any (p K : Nat) (n : Int) (w : World) (h : Src w p K) (hK : K ≤ 1000000000000) :
  Calls Tryz.prog 42 #[.pointer (some ⟨p, 0, none⟩), .int .i64 n] w (PickRet p (K + 2) n w) := by
 have HS := Lib.hid h
 have HN := Lib.hid (next_any p K w h (by omega))
 clear h
 by_cases h1 : n ≤ 1
 ·go_enter Tryz.func42, Tryz.ntmps42
  go_wp2
  go_ret
  exact ⟨0, rfl, .inl rfl, HS.out.more (by omega), World.grownBy.refl _ _⟩
 ·obtain ⟨N, rfl⟩ := Int.eq_ofNat_of_zero_le (show 0 ≤ n by omega)
  by_cases h2 : (N : Int) > 200
  ·go_enter Tryz.func42, Tryz.ntmps42
   go_wp2_with fail
   refine HN.out.mono ?_
   rintro e w1 ⟨x, rfl, hx, s1, g1⟩
   have HN2 := Lib.hid (next_any p (K + 1) w1 s1 (by omega))
   have G1 := Lib.hid g1
   clear s1 g1
   go_wp2_with fail
   refine HN2.out.mono ?_
   rintro e w2 ⟨y, rfl, hy, s2, g2⟩
   have S2 := Lib.hid s2
   have G2 := Lib.hid g2
   have hm := Nat.mod_lt (x * 256 + y) (show N > 0 by omega)
   have HM := Lib.hid hm
   clear s2 g2 hm
   go_wp2
   go_ret
   exact ⟨(x * 256 + y) % N, by simp, .inr (by have := HM.out; omega), S2.out, grown_trans G1.out G2.out⟩
  ·go_enter Tryz.func42, Tryz.ntmps42
   go_wp2_with fail
   refine HN.out.mono ?_
   rintro e w1 ⟨x, rfl, hx, s1, g1⟩
   have S1 := Lib.hid (s1.more (L := K + 2) (by omega))
   have G1 := Lib.hid g1
   have HM := Lib.hid (Nat.mod_lt x (show N > 0 by omega))
   clear s1 g1
   go_wp2
   go_ret
   exact ⟨x % N, by simp, .inr (by have := HM.out; omega), S1.out, G1.out⟩
def OneRet (p K : Nat) (w : World) (e : Ending) (w' : World) : Prop := ∃ r : Bool, e = .returned (.bool r) ∧ Src w' p K ∧ w.grownBy w' (some p)
theorem one_any (p K : Nat) (n : Int) (w : World) (h : Src w p K) (hK : K ≤ 1000000000000) :
  Calls Tryz.prog 40 #[.pointer (some ⟨p, 0, none⟩), .int .i64 n] w (OneRet p (K + 2) w) := by
 have HP := Lib.hid (pick_any p K n w h hK)
 clear h
 go_enter Tryz.func40, Tryz.ntmps40
 go_wp2_with fail
 refine HP.out.mono ?_
 rintro e w1 ⟨r, rfl, _, s1, g1⟩
 have S1 := Lib.hid s1
 have G1 := Lib.hid g1
 clear s1 g1
 go_wp2
 go_ret
 exact ⟨_, rfl, S1.out, G1.out⟩
theorem from_any (A : Option Addr) (c B : Nat) (zs : List Int) (w : World) (hx : RdB w B A zs) (hB : B ≤ w.heap.size) (hl : zs.length ≤ 9223372036854775807) (hz : ∀ z ∈ zs, 0 ≤ z ∧ z ≤ 255) :
  Calls Tryz.prog 16 #[.slice A zs.length c] w fun e w' => e = .returned (.pointer (some ⟨w.heap.size, 0, none⟩)) ∧ Src w' w.heap.size 0 ∧ Below w.heap.size w w' := by
 have hb : Below w.heap.size w (w.alloc (.cells #[.slice A zs.length c, .int .i64 0, .int .u64 0] 71)) := (Below.refl _ _).alloc (Nat.le_refl _) _
 have HF : Hid (Src (w.alloc (.cells #[.slice A zs.length c, .int .i64 0, .int .u64 0] 71)) w.heap.size 0) := Lib.hid
  ⟨A, c, zs, 0, 0, by go_simp, by go_simp, by go_simp, fun i => by go_simp, Nat.le_refl _, by decide, by decide, hl, hz, (hx.below hb hB).more hB⟩
 have HB := Lib.hid hb
 clear hx hz hb
 go_enter Tryz.func16, Tryz.ntmps16
 go_wp2
 go_ret
 exact ⟨rfl, HF.out, HB.out⟩
end Go.Proofs.YthagenodiofgnaaGreatDoor.Src

/- Small contracts that nearly all walks use: the tests of a range, least and greatest. -/
import Derived.Test.YtgipnbeipfhekaaGreatDoorRows
import Derived.WalkKit
import Derived.Lib.Hide
import Derived.Deep.QuietTactic
import Derived.BigQuiet
import Derived.Deep.Draws
import Derived.Below
import Derived.Outline
import Derived.Deep.OwnRows
import Derived.OwnWalk
import Derived.Laws.OwnMore
import Derived.Laws.Rows
import Derived.Maps.AppendAt
import Derived.Laws.BitsAllLaws
import Derived.IntWalk
import Derived.Lib.Builder
import Derived.StillTailTactics
import Derived.StillTail
import Derived.Deep.Quiet
theorem Go.Proofs.YtgipnbeipfhekaaGreatDoor.J {p : Prop} (h : p) : Go.RowKit.Hid p := h
set_option linter.unusedVariables false
set_option linter.unusedSimpArgs false
set_option maxRecDepth 100000
set_option maxHeartbeats 1000000
namespace Go.Proofs.YtgipnbeipfhekaaGreatDoor
namespace Base
open Go.RowKit
theorem ret_int {k : IntKind} {a b : Int} (h : a = b) : Ending.returned (.int k a) = .returned (.int k b) := by rw [h]
theorem ret_bool {a b : Bool} (h : a = b) : Ending.returned (.bool a) = .returned (.bool b) := by rw [h]
def inR (n lo hi : Int) : Bool := decide (lo ≤ n) && decide (n ≤ hi)
theorem inR_true {n lo hi : Int} (h : inR n lo hi = true) : lo ≤ n ∧ n ≤ hi := by simpa [inR] using h
theorem inR_yes {n lo hi : Int} (h : lo ≤ n ∧ n ≤ hi) : inR n lo hi = true := by simp [inR, h.1, h.2]
theorem inR_no {n lo hi : Int} (h : ¬ (lo ≤ n ∧ n ≤ hi)) : inR n lo hi = false := by
 cases h' : inR n lo hi
 ·rfl
 ·exact absurd (inR_true h') h
theorem inRange_any (n lo hi : Int) (w : World) :
  Calls Tryz.prog 31 #[.int .i64 n, .int .i64 lo, .int .i64 hi] w fun e w' => e = .returned (.bool (inR n lo hi)) ∧ w = w' := by
 by_cases h1 : lo ≤ n
 all_goals by_cases h2 : n ≤ hi
 all_goals
  go_enter Tryz.func31, Tryz.ntmps31
  go_wp2
  go_ret
  exact ⟨ret_bool (by simp [inR, h1, h2]), rfl⟩
theorem inRange_q (n lo hi : Int) (w : World) :
  Calls Tryz.prog 31 #[.int .i64 n, .int .i64 lo, .int .i64 hi] w fun e w' => e = .returned (.bool (inR n lo hi)) ∧ w' = w :=
 (inRange_any n lo hi w).mono fun _ _ h => ⟨h.1, h.2.symm⟩
theorem inRange_qb {n lo hi : Int} {r : Bool} (h : inR n lo hi = r) (w : World) :
  Calls Tryz.prog 31 #[.int .i64 n, .int .i64 lo, .int .i64 hi] w fun e w' => e = .returned (.bool r) ∧ w' = w := by
 subst h; exact inRange_q n lo hi w
theorem bcell {W w1 : World} (hb : Below W.heap.size W w1) : (∀ b o, b < W.heap.size → w1.cell? ⟨b, o, none⟩ = W.cell? ⟨b, o, none⟩) ∧ (∀ b o, b < W.heap.size → w1.frozen? ⟨b, o, none⟩ = W.frozen? ⟨b, o, none⟩) :=
 ⟨fun b o h => hb.cell (p := ⟨b, o, none⟩) h, fun b o h => hb.frozen (p := ⟨b, o, none⟩) h⟩
theorem below_drewN {B : Nat} {a w : World} (h : Below B a w) (n : Nat) : Below B a (w.drewN n) := ⟨h.os, h.tape, h.output, h.size, h.block⟩
theorem box_cells {w wX : World} {cs : Array Value} {T : TypeId} (h : Below (w.alloc (.cells cs T)).heap.size (w.alloc (.cells cs T)) wX) (i : Nat) : wX.cell? ⟨w.heap.size, i, none⟩ = cs[i]? := by
 rw [h.cell (p := ⟨w.heap.size, i, none⟩) (by simp)]
 exact World.cell?_alloc_new w cs T i
theorem Below.next {B : Nat} {w w1 w2 : World} (h : Below B w w1) (h2 : Below w1.heap.size w1 w2) (hB : B ≤ w.heap.size) : Below B w w2 := h.trans (h2.mono (Nat.le_trans hB h.size))
theorem Below.nextA {w w1 w2 : World} (h : Below w.heap.size w w1) (h2 : Below w1.heap.size w1 w2) : Below w.heap.size w w2 := h.trans (h2.mono h.size)
theorem Below.boxed {w w1 : World} {o : Obj} (h : Below (w.alloc o).heap.size (w.alloc o) w1) : Below w.heap.size w w1 := ((Below.refl _ _).alloc (Nat.le_refl _) _).trans (h.mono (by simp))
theorem wp_region_below {P : Program} {id : Nat} {Q : Exit → Act → World → Prop} {a : Act} {w : World} {l : List Oper} (hm : P.follows .mixedOrders = true) (hB : Region.lexB .any l.toArray = true)
  (h : wpQuiet P l.toArray (Below w.heap.size w) (fun a' => ∀ w', Below w.heap.size w w' → Q .normal a' w') l a) : (Code.region id l.toArray true).wp P Q a w :=
 wp_region_quiet (C := Below w.heap.size w) hm hB ((Below.refl w.heap.size w).drew) (by simpa using h)
attribute [irreducible] inR
end Base
namespace Mem
open Go.RowKit Base
def marks (k n : Nat) : List Int := (List.range n).map fun i => ((k + i : Nat) : Int)
def mk : Nat → List (List Int) → List (List Int)
 | _, [] => []
 | k, xs :: r => marks k xs.length :: mk (k + xs.length) r
def RdI (w : World) (B : Nat) (A : Option Addr) (xs : List Int) : Prop :=
 0 < xs.length → ∃ b off, A = some ⟨b, off, none⟩ ∧ b < B ∧ ∀ i, i < xs.length → w.cell? ⟨b, off + i, none⟩ = some (.int .i64 (xs.getD i 0))
theorem RdI.below {w w' : World} {B C : Nat} {A : Option Addr} {xs : List Int} (h : RdI w B A xs) (hb : Below C w w') (hBC : B ≤ C) : RdI w' B A xs := fun h0 => by
 obtain ⟨b, off, e, hlt, hc⟩ := h h0
 exact ⟨b, off, e, hlt, fun i hi => (hb.cell (p := ⟨b, off + i, none⟩) (by show b < C; omega)).trans (hc i hi)⟩
theorem RdI.more {w : World} {B C : Nat} {A : Option Addr} {xs : List Int} (h : RdI w B A xs) (hBC : B ≤ C) : RdI w C A xs := fun h0 => by
 obtain ⟨b, off, e, hlt, hc⟩ := h h0
 exact ⟨b, off, e, by omega, hc⟩
theorem RdI.drewN {w : World} {B : Nat} {A : Option Addr} {xs : List Int} (h : RdI w B A xs) (n : Nat) : RdI (w.drewN n) B A xs := h.below (below_drewN (Below.refl B w) n) (Nat.le_refl _)
def Drawn (w w' : World) : Prop := ∃ m, w' = w.drewN m
theorem Drawn.refl (w : World) : Drawn w w := ⟨0, rfl⟩
theorem Drawn.next {w w' : World} (h : Drawn w w') (n : Nat) : Drawn w (w'.drewN n) := by
 obtain ⟨m, rfl⟩ := h
 exact ⟨m + n, by rw [World.drewN_drewN]⟩
theorem Drawn.below {B : Nat} {w w' : World} (h : Drawn w w') : Below B w w' := by
 obtain ⟨m, rfl⟩ := h
 exact below_drewN (Below.refl _ _) m
def ints (xs : List Int) : List Value := xs.map (Value.int .i64)
theorem ints_len (xs : List Int) : (ints xs).length = xs.length := by simp [ints]
theorem ints_get (xs : List Int) (i : Nat) (h : i < xs.length) : (ints xs)[i]? = some (.int .i64 (xs.getD i 0)) := by simp [ints, List.getD, h]
theorem ints_one (xs : List Int) : ∀ u ∈ ints xs, u.oneCell' = true := by
 intro u hu
 simp only [ints, List.mem_map] at hu
 obtain ⟨x, _, rfl⟩ := hu
 rfl
def OwnI (w : World) (B : Nat) (u : Value) (xs : List Int) : Prop := w.ownsRow B 2 1 u xs.length (ints xs)
theorem ownsRow_form {w : World} {base : Nat} {e : TypeId} {size n : Nat} {v : Value} {xs : List Value} (h : w.ownsRow base e size v n xs) : ∃ A c, v = .slice A n c ∧ (0 < n → ∃ g, A = some ⟨g, 0, none⟩ ∧ base ≤ g ∧ g < w.heap.size) := by
 rcases h.2 with ⟨rfl, rfl⟩ | ⟨g, cap, cur, rfl, hb, hh, _⟩
 ·exact ⟨none, 0, rfl, fun h => absurd h (Nat.lt_irrefl 0)⟩
 ·refine ⟨some ⟨g, 0, none⟩, cap, rfl, fun _ => ⟨g, rfl, hb, ?_⟩⟩
  rcases Nat.lt_or_ge g w.heap.size with hlt | hge
  ·exact hlt
  ·rw [Array.getElem?_eq_none hge] at hh; cases hh
theorem ownsRow_below {w w' : World} {base : Nat} {e : TypeId} {size n : Nat} {v : Value} {xs : List Value} (h : w.ownsRow base e size v n xs) (hb : Below w.heap.size w w') : w'.ownsRow base e size v n xs := by
 refine ⟨h.1, ?_⟩
 rcases h.2 with h0 | ⟨g, cap, cur, rfl, h1, hh, h2⟩
 ·exact .inl h0
 ·have hlt : g < w.heap.size := by
   rcases Nat.lt_or_ge g w.heap.size with hlt | hge
   ·exact hlt
   ·rw [Array.getElem?_eq_none hge] at hh; cases hh
  exact .inr ⟨g, cap, cur, rfl, h1, (hb.block g hlt).trans hh, h2⟩
theorem ownsRow_base {w : World} {base base' : Nat} {e : TypeId} {size n : Nat} {v : Value} {xs : List Value} (h : w.ownsRow base e size v n xs) (hb : base' ≤ base) : w.ownsRow base' e size v n xs := by
 refine ⟨h.1, ?_⟩
 rcases h.2 with h0 | ⟨g, cap, cur, rfl, h1, h2⟩
 ·exact .inl h0
 ·exact .inr ⟨g, cap, cur, rfl, by omega, h2⟩
theorem OwnI.rd {w : World} {B n c : Nat} {A : Option Addr} {xs : List Int} (h : OwnI w B (.slice A n c) xs) : RdI w w.heap.size A xs := fun h0 => by
 obtain ⟨A', c', e, hf⟩ := ownsRow_form h
 injection e with e1 e2 e3
 subst e1 e2 e3
 obtain ⟨g, rfl, _, hlt⟩ := hf h0
 refine ⟨g, 0, rfl, hlt, fun i hi => ?_⟩
 rw [Nat.zero_add, World.ownsRow.cellAt h i (by omega), ints_get xs i hi]
theorem OwnI.form {w : World} {B : Nat} {u : Value} {xs : List Int} (h : OwnI w B u xs) : ∃ A c, u = .slice A xs.length c ∧ (0 < xs.length → ∃ g, A = some ⟨g, 0, none⟩ ∧ B ≤ g ∧ g < w.heap.size) := ownsRow_form h
theorem OwnI.below {w w' : World} {B : Nat} {u : Value} {xs : List Int} (h : OwnI w B u xs) (hb : Below w.heap.size w w') : OwnI w' B u xs := ownsRow_below h hb
theorem grown_trans {a b c : World} {row : Option Nat} (h : a.grownBy b row) (k : b.grownBy c row) : a.grownBy c row :=
 ⟨k.os.trans h.os, k.tape.trans h.tape, k.output.trans h.output, Nat.le_trans h.size k.size, fun i hi hne => (k.block i (Nat.lt_of_lt_of_le hi h.size) hne).trans (h.block i hi hne)⟩
theorem ints_set (xs : List Int) (i : Nat) (x : Int) : (ints xs).set i (.int .i64 x) = ints (xs.set i x) := by simp [ints, List.map_set]
theorem ownsRow_block {w : World} {base : Nat} {e : TypeId} {size n g : Nat} {v : Value} {xs : List Value} (h : w.ownsRow base e size v n xs) (hg : v.ownBlock = some g) : ∃ cur, w.heap[g]? = some (.cells cur e (0, 0)) ∧ base ≤ g ∧ g < w.heap.size := by
 rcases h.2 with ⟨rfl, _⟩ | ⟨g', cap, cur, rfl, hb, hh, _⟩
 ·simp [Value.ownBlock] at hg
 ·have : g' = g := by simpa [Value.ownBlock] using hg
  subst this
  refine ⟨cur, hh, hb, ?_⟩
  rcases Nat.lt_or_ge g' w.heap.size with hlt | hge
  ·exact hlt
  ·rw [Array.getElem?_eq_none hge] at hh; cases hh
theorem own_ne {w : World} {base base' : Nat} {e e' : TypeId} {size n size' n' : Nat} {v v' : Value} {xs xs' : List Value} (h : w.ownsRow base e size v n xs) (h' : w.ownsRow base' e' size' v' n' xs') (hne : e ≠ e') : v.ownBlock = none ∨ v.ownBlock ≠ v'.ownBlock := by
 rcases hv : v.ownBlock with _ | g
 ·exact .inl rfl
 ·refine .inr fun e1 => ?_
  obtain ⟨cur, h1, _⟩ := ownsRow_block h hv
  obtain ⟨cur', h2, _⟩ := ownsRow_block h' e1.symm
  rw [h1] at h2
  injection h2 with h2
  injection h2 with _ ht
  exact hne ht
theorem grown_below {B : Nat} {w w' : World} {row : Option Nat} (h : w.grownBy w' row) (hr : ∀ g, row = some g → B ≤ g) (hB : B ≤ w.heap.size) : Below B w w' := (Below.refl B w).grown h hB hr
def mixed (k : Nat) (xss : List (List Int)) (j : Nat) : List (List Int) := (mk k xss).take j ++ xss.drop j
theorem infoI : (Tryz.prog.info? 2).map (fun i => (i.zero, i.size, i.bytes)) = some (some (.int .i64 0), 1, 8) := by kernel_rfl
theorem own_lit (w : World) {B : Nat} (hB : B ≤ w.heap.size) (xs : List Int) (hm : xs.length ≤ maxLen) : (w.alloc (.cells (ints xs).toArray 2)).ownsRow B 2 1 (.slice (some ⟨w.heap.size, 0, none⟩) xs.length xs.length) xs.length (ints xs) := by
 have := World.ownsRow_lit (e := 2) (size := 1) (base := B) w (ints xs).toArray xs.length hB hm (by simp [ints_len])
 simpa using this
theorem news_one (w : World) (u : Value) (t : TypeId) {g : Nat} (hg : g = w.heap.size) : ∀ (j : Nat) (x : Value), [u][j]? = some x → (w.alloc (.cells #[u] t)).cell? ((⟨g, 0, none⟩ : Addr).add j) = some x := by
 subst hg
 intro j x hx
 match j with
 | 0 =>
  have : u = x := by simpa using hx
  subst this
  exact World.cell?_alloc_new w #[u] t 0
 | j + 1 => simp at hx
theorem one_int {k : IntKind} {n : Int} : ∀ u ∈ [Value.int k n], u.oneCell' = true := by
 intro u hu
 simp only [List.mem_singleton] at hu
 subst hu; rfl
def RdB (w : World) (B : Nat) (A : Option Addr) (zs : List Int) : Prop :=
 0 < zs.length → ∃ b off, A = some ⟨b, off, none⟩ ∧ b < B ∧ ∀ i, i < zs.length → w.cell? ⟨b, off + i, none⟩ = some (.int .u8 (zs.getD i 0))
theorem RdB.below {w w' : World} {B C : Nat} {A : Option Addr} {xs : List Int} (h : RdB w B A xs) (hb : Below C w w') (hBC : B ≤ C) : RdB w' B A xs := fun h0 => by
 obtain ⟨b, off, e, hlt, hc⟩ := h h0
 exact ⟨b, off, e, hlt, fun i hi => (hb.cell (p := ⟨b, off + i, none⟩) (by show b < C; omega)).trans (hc i hi)⟩
theorem RdB.more {w : World} {B C : Nat} {A : Option Addr} {xs : List Int} (h : RdB w B A xs) (hBC : B ≤ C) : RdB w C A xs := fun h0 => by
 obtain ⟨b, off, e, hlt, hc⟩ := h h0
 exact ⟨b, off, e, by omega, hc⟩
theorem RdB.drewN {w : World} {B : Nat} {A : Option Addr} {xs : List Int} (h : RdB w B A xs) (n : Nat) : RdB (w.drewN n) B A xs := h.below (below_drewN (Below.refl B w) n) (Nat.le_refl _)
end Mem
namespace Src
open Go.RowKit Base Mem
structure Src (w : World) (p K : Nat) : Prop where
 ex : ∃ (A : Option Addr) (c : Nat) (zs : List Int) (at_ : Nat) (sd : Int), w.cell? ⟨p, 0, none⟩ = some (.slice A zs.length c) ∧ w.cell? ⟨p, 1, none⟩ = some (.int .i64 (at_ : Int)) ∧ w.cell? ⟨p, 2, none⟩ = some (.int .u64 sd) ∧
  (∀ i, w.frozen? ⟨p, i, none⟩ = false) ∧ at_ ≤ K ∧ 0 ≤ sd ∧ sd ≤ 18446744073709551615 ∧ zs.length ≤ 9223372036854775807 ∧ (∀ z ∈ zs, 0 ≤ z ∧ z ≤ 255) ∧ RdB w p A zs
theorem Src.lt {w : World} {p K : Nat} (h : Src w p K) : p < w.heap.size := by
 obtain ⟨A, c, zs, a, sd, h0, _⟩ := h.ex
 exact block_lt_of_cell h0
theorem RdB.keep {w w' : World} {B p : Nat} {A : Option Addr} {zs : List Int} (h : RdB w B A zs) (hB : B ≤ p) (hw : ∀ g, g < B → w'.heap[g]? = w.heap[g]?) : RdB w' B A zs := fun h0 => by
 obtain ⟨b, off, e, hlt, hc⟩ := h h0
 exact ⟨b, off, e, hlt, fun i hi => (World.cell?_of_block (a := ⟨b, off + i, none⟩) (hw b hlt)).trans (hc i hi)⟩
theorem Src.below {w w' : World} {p K : Nat} (h : Src w p K) (hb : Below w.heap.size w w') : Src w' p K := by
 have hp := h.lt
 obtain ⟨A, c, zs, a, sd, h0, h1, h2, hf, h3, h4, h5, h6, h7, h8⟩ := h.ex
 exact ⟨A, c, zs, a, sd, (hb.cell (p := ⟨p, 0, none⟩) hp).trans h0, (hb.cell (p := ⟨p, 1, none⟩) hp).trans h1, (hb.cell (p := ⟨p, 2, none⟩) hp).trans h2, fun i => (hb.frozen (p := ⟨p, i, none⟩) hp).trans (hf i), h3, h4, h5, h6, h7, h8.below hb (by omega)⟩
theorem Src.kept {w w' : World} {p K : Nat} {row : Option Nat} (h : Src w p K) (hg : w.grownBy w' row) (hr : ∀ g, row = some g → p < g) : Src w' p K := by
 have hp := h.lt
 have hk : ∀ g, g ≤ p → w'.heap[g]? = w.heap[g]? := fun g hgp => hg.block g (by omega) fun e => by have := hr g e.symm; omega
 obtain ⟨A, c, zs, a, sd, h0, h1, h2, hf, h3, h4, h5, h6, h7, h8⟩ := h.ex
 have hc : ∀ i, w'.cell? ⟨p, i, none⟩ = w.cell? ⟨p, i, none⟩ := fun i => World.cell?_of_block (a := ⟨p, i, none⟩) (hk p (Nat.le_refl _))
 exact ⟨A, c, zs, a, sd, (hc 0).trans h0, (hc 1).trans h1, (hc 2).trans h2, fun i => (World.frozen?_of_block (a := ⟨p, i, none⟩) (hk p (Nat.le_refl _))).trans (hf i), h3, h4, h5, h6, h7, RdB.keep h8 (Nat.le_refl _) fun g hg => hk g (by omega)⟩
theorem Src.more {w : World} {p K L : Nat} (h : Src w p K) (hKL : K ≤ L) : Src w p L := by
 obtain ⟨A, c, zs, a, sd, h0, h1, h2, hf, h3, h4⟩ := h.ex
 exact ⟨A, c, zs, a, sd, h0, h1, h2, hf, by omega, h4⟩
theorem grown_setCell (w : World) (a : Addr) (v : Value) : w.grownBy (w.setCell a v) (some a.block) := by
 refine ⟨rfl, rfl, rfl, by simp, fun k hk hne => ?_⟩
 have : k ≠ a.block := fun e => hne (by rw [e])
 simp [World.setCell, Array.getElem?_modify, Ne.symm this]
theorem grown_drewN (w : World) (n : Nat) (row : Option Nat) : w.grownBy (w.drewN n) row := ⟨rfl, rfl, rfl, Nat.le_refl _, fun _ _ _ => rfl⟩
theorem and255 (x : Int) (h0 : 0 ≤ x) (h : x ≤ 18446744073709551615) : bits .and .u64 x 255 = x % 256 := by
 have := u64_and_nat x.toNat 255 (by omega) (by omega)
 rw [show (255 : Nat) = 2 ^ 8 - 1 from rfl, Nat.and_two_pow_sub_one_eq_mod] at this
 have e : (x.toNat : Int) = x := by omega
 rw [e, show ((2 ^ 8 - 1 : Nat) : Int) = 255 from rfl] at this
 rw [this]; omega
theorem u64_rng (x : Int) : 0 ≤ IntKind.u64.wrap x ∧ IntKind.u64.wrap x ≤ 18446744073709551615 := by
 rw [IntKind.wrap_u64]; omega
def NextRet (p K m : Nat) (w : World) (e : Ending) (w' : World) : Prop := ∃ r : Nat, e = .returned (.int .i64 r) ∧ r < m ∧ Src w' p K ∧ w.grownBy w' (some p)
theorem Src.set {w : World} {p K L a2 : Nat} {sd2 : Int} (h : Src w p K) (hL : a2 ≤ L) (hs : 0 ≤ sd2 ∧ sd2 ≤ 18446744073709551615) : Src ((w.setCell ⟨p, 1, none⟩ (.int .i64 (a2 : Int))).setCell ⟨p, 2, none⟩ (.int .u64 sd2)) p L ∧
  w.grownBy ((w.setCell ⟨p, 1, none⟩ (.int .i64 (a2 : Int))).setCell ⟨p, 2, none⟩ (.int .u64 sd2)) (some p) := by
 have hg := grown_trans (grown_setCell w ⟨p, 1, none⟩ (.int .i64 (a2 : Int))) (grown_setCell _ ⟨p, 2, none⟩ (.int .u64 sd2))
 refine ⟨?_, hg⟩
 obtain ⟨A, c, zs, a, sd, h0, h1, h2, hf, h3, h4, h5, h6, h7, h8⟩ := h.ex
 refine ⟨A, c, zs, a2, sd2, ?_, ?_, ?_, fun i => by simpa using hf i, hL, hs.1, hs.2, h6, h7, ?_⟩
 ·rw [World.cell?_setCell_other _ _ _ _ (by simp), World.cell?_setCell_other _ _ _ _ (by simp)]; exact h0
 ·rw [World.cell?_setCell_other _ _ _ _ (by simp)]; exact World.cell?_setCell_same _ _ _ h1
 ·refine World.cell?_setCell_same (u := .int .u64 sd) _ _ _ ?_
  rw [World.cell?_setCell_other _ _ _ _ (by simp)]; exact h2
 ·exact RdB.keep h8 (Nat.le_refl _) fun g hgp => hg.block g (by have := h.lt; omega) fun e => by
   have : g = p := Option.some.inj e
   omega
theorem Src.put {w : World} {p K L a a2 n : Nat} {sd2 : Int} {v : Value} (h : Src w p K) (hv : w.cell? ⟨p, 0, none⟩ = some v) (hL : a2 ≤ L) (hs : 0 ≤ sd2 ∧ sd2 ≤ 18446744073709551615) (w2 : World) (h2 : ((w.drewN n).setCell ⟨p, 1, none⟩ (.int .i64 (a2 : Int))).setCell ⟨p, 2, none⟩ (.int .u64 sd2) = w2) :
  Src w2 p L ∧ w.grownBy w2 (some p) ∧ w2.cell? ⟨p, 0, none⟩ = some v ∧ w2.cell? ⟨p, 1, none⟩ = some (.int .i64 (a2 : Int)) ∧ w2.cell? ⟨p, 2, none⟩ = some (.int .u64 sd2) := by
 have hd : Src (w.drewN n) p K := h.below (below_drewN (Below.refl _ _) n)
 obtain ⟨g1, g2⟩ := hd.set hL hs
 rw [h2] at g1 g2
 refine ⟨g1, grown_trans (grown_drewN w n _) g2, ?_, ?_, ?_⟩
 all_goals subst h2
 ·rw [World.cell?_setCell_other _ _ _ _ (by simp), World.cell?_setCell_other _ _ _ _ (by simp)]; simpa using hv
 ·obtain ⟨A, c, zs, a', sd, _, h1, _⟩ := hd.ex
  rw [World.cell?_setCell_other _ _ _ _ (by simp)]; exact World.cell?_setCell_same _ _ _ h1
 ·obtain ⟨A, c, zs, a', sd, _, _, h1, _⟩ := hd.ex
  refine World.cell?_setCell_same (u := .int .u64 sd) _ _ _ ?_
  rw [World.cell?_setCell_other _ _ _ _ (by simp)]; exact h1
theorem next_any (p K : Nat) (w : World) (h : Src w p K) (hK : K ≤ 1099511627776) :
  Calls Tryz.prog 112 #[.pointer (some ⟨p, 0, none⟩)] w (NextRet p (K + 1) 256 w) := by
 have HS := J h
 obtain ⟨A, c, zs, a, sd, h0, h1, h2, hf, h3, h4, h5, h6, h7, h8⟩ := h.ex
 have f0 := hf 0
 have f1 := hf 1
 have f2 := hf 2
 have HP := J (fun n sd2 w2 hs => h.put (L := K + 1) (a := 0) (a2 := a + 1) (n := n) (sd2 := sd2) h0 (by omega) hs w2)
 have HU := J u64_rng
 have hal : (a : Int) + 1 ≤ 1099511627777 := by omega
 by_cases hlt : a < zs.length
 ·obtain ⟨b, off, rfl, hbp, hc⟩ := h8 (by omega)
  have g := hc a hlt
  have hz := h7 (zs.getD a 0) (by simp [List.getD, hlt])
  have hbne : b ≠ p := by omega
  clear hc h7 h8 hf h
  generalize zs.getD a 0 = z at *
  obtain ⟨z0, z1⟩ := hz
  go_enter Tryz.func112, Tryz.ntmps112
  go_wp2
  go_quiet (fail)
  go_wp2
  go_quiet (fail)
  go_wp2
  have HR := J (HU.out (IntKind.u64.wrap (IntKind.u64.wrap (sd * 6364136223846793005) + z) + 1442695040888963407))
  generalize IntKind.u64.wrap (IntKind.u64.wrap (IntKind.u64.wrap (sd * 6364136223846793005) + z) + 1442695040888963407) = sd2 at *
  generalize IntKind.u64.wrap (IntKind.u64.wrap (sd * 6364136223846793005) + z) = sd3 at *
  generalize IntKind.u64.wrap (sd * 6364136223846793005) = sd4 at *
  rw [show (a : Int) + 1 = ((a + 1 : Nat) : Int) by omega]
  generalize hw2 : ((w.drewN _).setCell ⟨p, 1, none⟩ _).setCell ⟨p, 2, none⟩ _ = w2
  obtain ⟨s2, gr, q0, q1, q2⟩ := HP.out _ _ _ HR.out hw2
  have HS2 := J s2
  have HG := J gr
  clear s2 gr hw2 h0 h1 h2 f0 f1 f2 g
  have hle : a + 1 ≤ zs.length := by omega
  obtain ⟨a1, ha1⟩ : ∃ a1, a1 = a + 1 := ⟨_, rfl⟩
  rw [← ha1] at q1 hle ⊢
  have HA1 := J ha1
  clear ha1
  go_quiet (fail)
  go_wp2
  go_ret
  obtain ⟨Z, rfl⟩ := Int.eq_ofNat_of_zero_le z0
  exact ⟨Z, rfl, by omega, HS2.out.below (below_drewN (Below.refl _ _) _), grown_trans HG.out (grown_drewN _ _ _)⟩
 ·clear h7 h8 hf h
  go_enter Tryz.func112, Tryz.ntmps112
  go_wp2
  go_quiet (fail)
  go_wp2
  have HR := J (HU.out (IntKind.u64.wrap (IntKind.u64.wrap (sd * 6364136223846793005)) + 1442695040888963407))
  generalize IntKind.u64.wrap (IntKind.u64.wrap (IntKind.u64.wrap (sd * 6364136223846793005)) + 1442695040888963407) = sd2 at *
  generalize IntKind.u64.wrap (IntKind.u64.wrap (sd * 6364136223846793005)) = sd3 at *
  generalize IntKind.u64.wrap (sd * 6364136223846793005) = sd4 at *
  rw [show (a : Int) + 1 = ((a + 1 : Nat) : Int) by omega]
  generalize hw2 : ((w.drewN _).setCell ⟨p, 1, none⟩ _).setCell ⟨p, 2, none⟩ _ = w2
  obtain ⟨s2, gr, q0, q1, q2⟩ := HP.out _ _ _ HR.out hw2
  have HS2 := J s2
  have HG := J gr
  clear s2 gr hw2 h0 h1 h2 f0 f1 f2
  have hle : ¬ a + 1 ≤ zs.length := by omega
  obtain ⟨a1, ha1⟩ : ∃ a1, a1 = a + 1 := ⟨_, rfl⟩
  rw [← ha1] at q1 hle ⊢
  have HA1 := J ha1
  clear ha1
  obtain ⟨r0, r1⟩ := HR.out
  have hq := and255 (sd2 / 1099511627776) (by omega) (by omega)
  have HQ := J hq
  clear hq
  go_quiet (fail)
  go_wp2
  go_ret
  refine ⟨(sd2 / 1099511627776 % 256).toNat, ret_int ?_, by omega, HS2.out.below (below_drewN (Below.refl _ _) _), grown_trans HG.out (grown_drewN _ _ _)⟩
  rw [HQ.out]
  simp only [wrap64]; omega
def PickRet (p K : Nat) (n : Int) (w : World) (e : Ending) (w' : World) : Prop := ∃ r : Nat, e = .returned (.int .i64 r) ∧ (r = 0 ∨ (r : Int) < n) ∧ Src w' p K ∧ w.grownBy w' (some p)
theorem pick_any (p K : Nat) (n : Int) (w : World) (h : Src w p K) (hK : K ≤ 1000000000000) :
  Calls Tryz.prog 60 #[.pointer (some ⟨p, 0, none⟩), .int .i64 n] w (PickRet p (K + 2) n w) := by
 have HS := J h
 have HN := J (next_any p K w h (by omega))
 clear h
 by_cases h1 : n ≤ 1
 ·go_enter Tryz.func60, Tryz.ntmps60
  go_wp2
  go_ret
  exact ⟨0, rfl, .inl rfl, HS.out.more (by omega), World.grownBy.refl _ _⟩
 ·obtain ⟨N, rfl⟩ := Int.eq_ofNat_of_zero_le (show 0 ≤ n by omega)
  by_cases h2 : (N : Int) > 200
  ·go_enter Tryz.func60, Tryz.ntmps60
   go_wp2_with fail
   refine HN.out.mono ?_
   rintro e w1 ⟨x, rfl, hx, s1, g1⟩
   have HN2 := J (next_any p (K + 1) w1 s1 (by omega))
   have G1 := J g1
   clear s1 g1
   go_wp2_with fail
   refine HN2.out.mono ?_
   rintro e w2 ⟨y, rfl, hy, s2, g2⟩
   have S2 := J s2
   have G2 := J g2
   have hm := Nat.mod_lt (x * 256 + y) (show N > 0 by omega)
   have HM := J hm
   clear s2 g2 hm
   go_wp2
   go_ret
   exact ⟨(x * 256 + y) % N, by simp, .inr (by have := HM.out; omega), S2.out, grown_trans G1.out G2.out⟩
  ·go_enter Tryz.func60, Tryz.ntmps60
   go_wp2_with fail
   refine HN.out.mono ?_
   rintro e w1 ⟨x, rfl, hx, s1, g1⟩
   have S1 := J (s1.more (L := K + 2) (by omega))
   have G1 := J g1
   have HM := J (Nat.mod_lt x (show N > 0 by omega))
   clear s1 g1
   go_wp2
   go_ret
   exact ⟨x % N, by simp, .inr (by have := HM.out; omega), S1.out, G1.out⟩
def OneRet (p K : Nat) (w : World) (e : Ending) (w' : World) : Prop := ∃ r : Bool, e = .returned (.bool r) ∧ Src w' p K ∧ w.grownBy w' (some p)
theorem one_any (p K : Nat) (n : Int) (w : World) (h : Src w p K) (hK : K ≤ 1000000000000) :
  Calls Tryz.prog 63 #[.pointer (some ⟨p, 0, none⟩), .int .i64 n] w (OneRet p (K + 2) w) := by
 have HP := J (pick_any p K n w h hK)
 clear h
 go_enter Tryz.func63, Tryz.ntmps63
 go_wp2_with fail
 refine HP.out.mono ?_
 rintro e w1 ⟨r, rfl, _, s1, g1⟩
 have S1 := J s1
 have G1 := J g1
 clear s1 g1
 go_wp2
 go_ret
 exact ⟨_, rfl, S1.out, G1.out⟩
theorem from_any (A : Option Addr) (c B : Nat) (zs : List Int) (w : World) (hx : RdB w B A zs) (hB : B ≤ w.heap.size) (hl : zs.length ≤ 9223372036854775807) (hz : ∀ z ∈ zs, 0 ≤ z ∧ z ≤ 255) :
  Calls Tryz.prog 27 #[.slice A zs.length c] w fun e w' => e = .returned (.pointer (some ⟨w.heap.size, 0, none⟩)) ∧ Src w' w.heap.size 0 ∧ Below w.heap.size w w' := by
 have hb : Below w.heap.size w (w.alloc (.cells #[.slice A zs.length c, .int .i64 0, .int .u64 0] 116)) := (Below.refl _ _).alloc (Nat.le_refl _) _
 have HF : Hid (Src (w.alloc (.cells #[.slice A zs.length c, .int .i64 0, .int .u64 0] 116)) w.heap.size 0) := J
  ⟨A, c, zs, 0, 0, by go_simp, by go_simp, by go_simp, fun i => by go_simp, Nat.le_refl _, by decide, by decide, hl, hz, (hx.below hb hB).more hB⟩
 have HB := J hb
 clear hx hz hb
 go_enter Tryz.func27, Tryz.ntmps27
 go_wp2
 go_ret
 exact ⟨rfl, HF.out, HB.out⟩
end Src
namespace Blk
open Go.RowKit Base Mem
def Blk (w : World) (b : Nat) (t : TypeId) (cs : Array Value) : Prop := w.heap[b]? = some (.cells cs t (0, 0))
section
variable {w w' : World} {b : Nat} {t : TypeId} {cs : Array Value}
theorem Blk.new (w : World) (t : TypeId) (cs : Array Value) : Blk (w.alloc (.cells cs t)) w.heap.size t cs := by
 unfold Blk
 show (w.heap.push _)[w.heap.size]? = _
 simp
theorem Blk.newAt {n : Nat} (t : TypeId) (cs : Array Value) (h : n = w.heap.size) : Blk (w.alloc (.cells cs t)) n t cs := h ▸ Blk.new w t cs
theorem Blk.lt (h : Blk w b t cs) : b < w.heap.size := by
 rcases Nat.lt_or_ge b w.heap.size with hlt | hge
 ·exact hlt
 ·unfold Blk at h; rw [Array.getElem?_eq_none hge] at h; cases h
theorem Blk.cell (h : Blk w b t cs) (i : Nat) : w.cell? ⟨b, i, none⟩ = cs[i]? := Lib.cell_of_heap h i
theorem Blk.at (h : Blk w b t cs) (i : Nat) {v : Value} (hv : cs[i]? = some v) : w.cell? ⟨b, i, none⟩ = some v := (h.cell i).trans hv
theorem Blk.frz (h : Blk w b t cs) (i : Nat) : w.frozen? ⟨b, i, none⟩ = false := Lib.frozen_of_heap h i
theorem Blk.below {B : Nat} (h : Blk w b t cs) (hb : Below B w w') (hB : b < B) : Blk w' b t cs := (hb.block b hB).trans h
theorem Blk.belowS (h : Blk w b t cs) (hb : Below w.heap.size w w') : Blk w' b t cs := h.below hb h.lt
theorem Blk.kept {row : Option Nat} (h : Blk w b t cs) (hg : w.grownBy w' row) (hne : row ≠ some b) : Blk w' b t cs := (hg.block b h.lt fun e => hne e.symm).trans h
theorem Blk.alloc (h : Blk w b t cs) (o : Obj) : Blk (w.alloc o) b t cs := h.belowS ((Below.refl _ _).alloc (Nat.le_refl _) _)
theorem Blk.drewN (h : Blk w b t cs) (n : Nat) : Blk (w.drewN n) b t cs := h
theorem Blk.drew (h : Blk w b t cs) : Blk w.drew b t cs := h
theorem Blk.set (h : Blk w b t cs) (i : Nat) (v : Value) : Blk (w.setCell ⟨b, i, none⟩ v) b t (cs.setIfInBounds i v) := by
 unfold Blk at *
 simp [World.setCell, Array.getElem?_modify, h]
theorem Blk.other (h : Blk w b t cs) {a : Addr} (v : Value) (hne : a.block ≠ b) : Blk (w.setCell a v) b t cs :=
 h.kept (Src.grown_setCell w a v) fun e => hne (Option.some.inj e)
theorem Blk.setTo {cs' : Array Value} (h : Blk w b t cs) (i : Nat) (v : Value) (hc : cs.setIfInBounds i v = cs') : Blk (w.setCell ⟨b, i, none⟩ v) b t cs' := hc ▸ h.set i v
def put3 (w : World) (b : Nat) (v0 v1 v2 : Value) : World := ((w.setCell ⟨b, 0, none⟩ v0).setCell ⟨b, 1, none⟩ v1).setCell ⟨b, 2, none⟩ v2
theorem Blk.set3 {u0 u1 u2 : Value} (h : Blk w b t #[u0, u1, u2]) (v0 v1 v2 : Value) : Blk (put3 w b v0 v1 v2) b t #[v0, v1, v2] :=
 ((h.setTo 0 v0 rfl).setTo 1 v1 rfl).setTo 2 v2 rfl
theorem Blk.oth3 {b' : Nat} (h : Blk w b t cs) (v0 v1 v2 : Value) (hne : b' ≠ b) : Blk (put3 w b' v0 v1 v2) b t cs := ((h.other v0 hne).other v1 hne).other v2 hne
theorem below_put3 {B b' : Nat} {w0 : World} (h : Below B w0 w) (hB : B ≤ b') (v0 v1 v2 : Value) : Below B w0 (put3 w b' v0 v1 v2) :=
 ((h.setCell (p := ⟨b', 0, none⟩) hB v0).setCell (p := ⟨b', 1, none⟩) hB v1).setCell (p := ⟨b', 2, none⟩) hB v2
end
structure Beside (p : Nat) (w w' : World) : Prop where
 os : w'.os = w.os
 tape : w'.tape = w.tape
 output : w'.output = w.output
 size : w.heap.size ≤ w'.heap.size
 same : ∀ q, q < w.heap.size → q ≠ p → w'.heap[q]? = w.heap[q]?
theorem Beside.refl (p : Nat) (w : World) : Beside p w w := ⟨rfl, rfl, rfl, Nat.le_refl _, fun _ _ _ => rfl⟩
theorem Beside.trans {p : Nat} {a b c : World} (h : Beside p a b) (k : Beside p b c) : Beside p a c :=
 ⟨k.os.trans h.os, k.tape.trans h.tape, k.output.trans h.output, Nat.le_trans h.size k.size, fun q h1 h2 => (k.same q (Nat.lt_of_lt_of_le h1 h.size) h2).trans (h.same q h1 h2)⟩
theorem Beside.grown {p : Nat} {w w' : World} (h : w.grownBy w' (some p)) : Beside p w w' := ⟨h.os, h.tape, h.output, h.size, fun q h1 h2 => h.block q h1 fun e => h2 (Option.some.inj e)⟩
theorem Beside.ofBelow {p : Nat} {w w' : World} (h : Below w.heap.size w w') : Beside p w w' := ⟨h.os, h.tape, h.output, h.size, fun q h1 _ => h.block q h1⟩
theorem Beside.below {p B : Nat} {w w' : World} (h : Beside p w w') (hp : B ≤ p) (hB : B ≤ w.heap.size) : Below B w w' := ⟨h.os, h.tape, h.output, h.size, fun q hq => h.same q (by omega) (by omega)⟩
theorem Beside.alloc {p : Nat} {w w' : World} (h : Beside p w w') (o : Obj) : Beside p w (w'.alloc o) := h.trans (Beside.ofBelow ((Below.refl _ _).alloc (Nat.le_refl _) o))
theorem Beside.drewN {p : Nat} {w w' : World} (h : Beside p w w') (n : Nat) : Beside p w (w'.drewN n) := h.trans (Beside.ofBelow (below_drewN (Below.refl _ _) n))
theorem Beside.drew {p : Nat} {w w' : World} (h : Beside p w w') : Beside p w w'.drew := h.drewN 1
theorem Beside.set {p : Nat} {w w' : World} (h : Beside p w w') {a : Addr} (ha : w.heap.size ≤ a.block) (v : Value) : Beside p w (w'.setCell a v) := by
 have g := Src.grown_setCell w' a v
 exact ⟨g.os.trans h.os, g.tape.trans h.tape, g.output.trans h.output, Nat.le_trans h.size g.size, fun q h1 h2 => (g.block q (Nat.lt_of_lt_of_le h1 h.size) fun e => by have := Option.some.inj e; omega).trans (h.same q h1 h2)⟩
theorem Blk.beside {p b : Nat} {t : TypeId} {cs : Array Value} {w w' : World} (h : Blk w b t cs) (hb : Beside p w w') (hne : b ≠ p) : Blk w' b t cs := (hb.same b h.lt hne).trans h
theorem Blk.src {p b : Nat} {t : TypeId} {cs : Array Value} {w w' : World} (h : Blk w b t cs) (hg : w.grownBy w' (some p)) (hne : b ≠ p) : Blk w' b t cs := h.kept hg fun e => hne (Option.some.inj e).symm
end Blk
namespace CycM
theorem pigeon : ∀ (M n : Nat) (g : Nat → Nat), (∀ i, i < n → g i < M) → (∀ a b, a < b → b < n → g a ≠ g b) → n ≤ M
 | 0, n, g, h, _ => by
  rcases Nat.eq_zero_or_pos n with h0 | h0
  ·omega
  ·have := h 0 h0; omega
 | M + 1, n, g, h, hd => by
  by_cases hex : ∃ i, i < n ∧ g i = M
  ·obtain ⟨i0, hi0, he⟩ := hex
   have ih := pigeon M (n - 1) (fun i => g (if i < i0 then i else i + 1)) (fun i hi => by
    show g (if i < i0 then i else i + 1) < M
    by_cases hlt : i < i0
    ·rw [if_pos hlt]
     have h1 := h i (by omega)
     have h2 := hd i i0 hlt hi0
     omega
    ·rw [if_neg hlt]
     have h1 := h (i + 1) (by omega)
     have h2 := hd i0 (i + 1) (by omega) (by omega)
     omega) (fun a b hab hb => by
    show g (if a < i0 then a else a + 1) ≠ g (if b < i0 then b else b + 1)
    by_cases ha : a < i0 <;> by_cases hb' : b < i0
    ·rw [if_pos ha, if_pos hb']; exact hd a b hab (by omega)
    ·rw [if_pos ha, if_neg hb']; exact hd a (b + 1) (by omega) (by omega)
    ·omega
    ·rw [if_neg ha, if_neg hb']; exact hd (a + 1) (b + 1) (by omega) (by omega))
   omega
  ·have ih := pigeon M n g (fun i hi => by
    have h1 := h i hi
    have h2 : g i ≠ M := fun e => hex ⟨i, hi, e⟩
    omega) hd
   omega
def iter (T : Nat → Nat) (x : Nat) : Nat → Nat
 | 0 => x
 | k + 1 => T (iter T x k)
theorem iter_succ (T : Nat → Nat) (x k : Nat) : iter T x (k + 1) = T (iter T x k) := rfl
theorem iter_lt {T : Nat → Nat} {M x : Nat} (hT : ∀ s, s < M → T s < M) (hx : x < M) (k : Nat) : iter T x k < M := by
 induction k with
 | zero => exact hx
 | succ k ih => exact hT _ ih
theorem iter_add (T : Nat → Nat) (x j k : Nat) : iter T x (j + k) = iter T (iter T x j) k := by
 induction k with
 | zero => rfl
 | succ k ih => rw [← Nat.add_assoc, iter_succ, iter_succ, ih]
theorem iter_congr {T U : Nat → Nat} {M x : Nat} (hT : ∀ s, s < M → T s < M) (hx : x < M) (h : ∀ s, s < M → T s = U s) (k : Nat) : iter T x k = iter U x k := by
 induction k with
 | zero => rfl
 | succ k ih => rw [iter_succ, iter_succ, ← ih, h _ (iter_lt hT hx k)]
def IsCyc (T : Nat → Nat) (x j n : Nat) : Prop :=
 j < n ∧ iter T x j = iter T x n ∧ ∀ a b, a < b → b < n → iter T x a ≠ iter T x b
theorem IsCyc.uniq {T : Nat → Nat} {x j n j' n' : Nat} (h : IsCyc T x j n) (h' : IsCyc T x j' n') : j = j' ∧ n = n' := by
 obtain ⟨h1, h2, h3⟩ := h
 obtain ⟨g1, g2, g3⟩ := h'
 have e : n = n' := by
  rcases Nat.lt_trichotomy n n' with hlt | he | hgt
  ·exact absurd h2 (g3 j n h1 hlt)
  ·exact he
  ·exact absurd g2 (h3 j' n' g1 hgt)
 subst e
 rcases Nat.lt_trichotomy j j' with hlt | he | hgt
 ·exact absurd (h2.trans g2.symm) (h3 j j' hlt g1)
 ·exact ⟨he, rfl⟩
 ·exact absurd (g2.trans h2.symm) (h3 j' j hgt h1)
theorem IsCyc.le {T : Nat → Nat} {M x j n : Nat} (hT : ∀ s, s < M → T s < M) (hx : x < M) (h : IsCyc T x j n) : n ≤ M :=
 pigeon M n (iter T x) (fun i _ => iter_lt hT hx i) h.2.2
theorem IsCyc.congr {T U : Nat → Nat} {M x j n : Nat} (hT : ∀ s, s < M → T s < M) (hx : x < M) (hTU : ∀ s, s < M → T s = U s) (h : IsCyc T x j n) : IsCyc U x j n := by
 obtain ⟨h1, h2, h3⟩ := h
 refine ⟨h1, ?_, fun a b hab hb => ?_⟩
 ·rw [← iter_congr hT hx hTU, ← iter_congr hT hx hTU]; exact h2
 ·rw [← iter_congr hT hx hTU, ← iter_congr hT hx hTU]; exact h3 a b hab hb
noncomputable def cyc (T : Nat → Nat) (x : Nat) : Nat × Nat := Classical.epsilon fun p : Nat × Nat => IsCyc T x p.1 p.2
theorem cyc_of {T : Nat → Nat} {x j n : Nat} (h : IsCyc T x j n) : cyc T x = (j, n) := by
 have hs : IsCyc T x (cyc T x).1 (cyc T x).2 := Classical.epsilon_spec (p := fun p : Nat × Nat => IsCyc T x p.1 p.2) ⟨(j, n), h⟩
 obtain ⟨h1, h2⟩ := hs.uniq h
 exact Prod.ext h1 h2
noncomputable def preOf (T : Nat → Nat) (x : Nat) : Int := ((cyc T x).1 : Int)
noncomputable def perOf (T : Nat → Nat) (x : Nat) : Int := ((cyc T x).2 : Int) - ((cyc T x).1 : Int)
theorem preOf_of {T : Nat → Nat} {x j n : Nat} (h : IsCyc T x j n) : preOf T x = j := by unfold preOf; rw [cyc_of h]
theorem perOf_of {T : Nat → Nat} {x j n : Nat} (h : IsCyc T x j n) : perOf T x = (n : Int) - j := by unfold perOf; rw [cyc_of h]
structure Seen (T : Nat → Nat) (x M n : Nat) (f : Nat → Nat) : Prop where
 zero : ∀ s, s < M → f s = 0 → ∀ i, i < n → iter T x i ≠ s
 pos : ∀ s, s < M → f s ≠ 0 → f s ≤ n ∧ iter T x (f s - 1) = s
 dist : ∀ a b, a < b → b < n → iter T x a ≠ iter T x b
theorem Seen.start (T : Nat → Nat) (x M : Nat) : Seen T x M 0 (fun _ => 0) :=
 ⟨fun _ _ _ i hi => absurd hi (Nat.not_lt_zero i), fun _ _ h => absurd rfl h, fun a b _ hb => absurd hb (Nat.not_lt_zero b)⟩
theorem Seen.step {T : Nat → Nat} {x M n : Nat} {f : Nat → Nat} (hT : ∀ s, s < M → T s < M) (hx : x < M) (h : Seen T x M n f) (h0 : f (iter T x n) = 0) :
  Seen T x M (n + 1) (fun s => if s = iter T x n then n + 1 else f s) := by
 have hn := h.zero _ (iter_lt hT hx n) h0
 refine ⟨fun s hs hf i hi => ?_, fun s hs hf => ?_, fun a b hab hb => ?_⟩
 ·by_cases e : s = iter T x n
  ·simp [e] at hf
  ·simp only [if_neg e] at hf
   rcases Nat.lt_or_ge i n with h1 | h1
   ·exact h.zero s hs hf i h1
   ·obtain rfl : i = n := by omega
    exact fun h2 => e h2.symm
 ·by_cases e : s = iter T x n
  ·simp only [if_pos e]
   exact ⟨Nat.le_refl _, by simpa using e.symm⟩
  ·simp only [if_neg e] at hf ⊢
   have := h.pos s hs hf
   exact ⟨by omega, this.2⟩
 ·rcases Nat.lt_or_ge b n with h1 | h1
  ·exact h.dist a b hab h1
  ·obtain rfl : b = n := by omega
   exact hn a hab
theorem Seen.le {T : Nat → Nat} {x M n : Nat} {f : Nat → Nat} (hT : ∀ s, s < M → T s < M) (hx : x < M) (h : Seen T x M n f) : n ≤ M :=
 pigeon M n (iter T x) (fun i _ => iter_lt hT hx i) h.dist
theorem Seen.done {T : Nat → Nat} {x M n : Nat} {f : Nat → Nat} (hT : ∀ s, s < M → T s < M) (hx : x < M) (h : Seen T x M n f) (h0 : f (iter T x n) ≠ 0) :
  IsCyc T x (f (iter T x n) - 1) n := by
 have := h.pos _ (iter_lt hT hx n) h0
 exact ⟨by omega, this.2, h.dist⟩
end CycM
namespace Cong
open Go.RowKit Base
def congB (m f a : Int) : Bool := inR m 2 100000 && (inR f 0 (m - 1) && inR a 0 (m - 1))
theorem congB_true {m f a : Int} (h : congB m f a = true) : 2 ≤ m ∧ m ≤ 100000 ∧ 0 ≤ f ∧ f < m ∧ 0 ≤ a ∧ a < m := by
 simp only [congB, Bool.and_eq_true] at h
 have h1 := inR_true h.1
 have h2 := inR_true h.2.1
 have h3 := inR_true h.2.2
 omega
def stepN (m f a x : Nat) : Nat := (f * x + a) % m
theorem stepN_lt {m f a : Nat} (hm : 0 < m) (x : Nat) : stepN m f a x < m := Nat.mod_lt _ hm
theorem stepN_int (m f a x : Nat) : ((f : Int) * (x : Int) + (a : Int)) % (m : Int) = ((stepN m f a x : Nat) : Int) := by
 unfold stepN; simp
theorem prod_le {f x m : Nat} (h1 : f < m) (h2 : x < m) (h3 : m ≤ 100000) : (f : Int) * (x : Int) ≤ 10000000000 ∧ 0 ≤ (f : Int) * (x : Int) := by
 have h : f * x ≤ 100000 * 100000 := Nat.mul_le_mul (by omega) (by omega)
 have e : ((f * x : Nat) : Int) = (f : Int) * (x : Int) := by simp
 rw [← e]; omega
theorem info64 : (Tryz.prog.info? 2).map (fun i => (i.zero, i.size, i.bytes)) = some (some (.int .i64 0), 1, 8) := by kernel_rfl
def CycRet (T : Nat → Nat) (x : Nat) (w : World) (e : Ending) (w' : World) : Prop :=
 ∃ j n : Nat, CycM.IsCyc T x j n ∧ e = .returned (.tuple #[.int .i64 j, .int .i64 ((n : Int) - j)]) ∧ Below w.heap.size w w'
def CycRel (T : Nat → Nat) (x m : Nat) (t : TypeId) (w : World) (xv nv : Value) (wr : World) : Prop :=
 ∃ (n : Nat) (F : Nat → Nat), n ≤ m ∧ CycM.Seen T x m n F ∧ wr.rowIs w.heap.size t m (fun s => .int .i64 (F s : Nat)) ∧ Below w.heap.size w wr ∧ xv = .int .i64 (CycM.iter T x n : Nat) ∧ nv = .int .i64 ((n : Int) + 1)
theorem CycRel.start (T : Nat → Nat) (x m : Nat) (t : TypeId) (w : World) : CycRel T x m t w (.int .i64 (x : Int)) (.int .i64 1) (w.alloc (.cells (madeCells #[.int .i64 0] m) t)) :=
 ⟨0, fun _ => 0, Nat.zero_le _, CycM.Seen.start T x m, World.rowIs_made w _ m t, (Below.refl _ _).alloc (Nat.le_refl _) _, rfl, rfl⟩
theorem CycRel.next {T : Nat → Nat} {x m n : Nat} {t : TypeId} {w wr : World} {F : Nat → Nat} (hT : ∀ s, s < m → T s < m) (hx : x < m) (hS : CycM.Seen T x m n F)
  (hrow : wr.rowIs w.heap.size t m (fun s => .int .i64 (F s : Nat))) (hb : Below w.heap.size w wr) (h0 : F (CycM.iter T x n) = 0) (k : Nat) :
  CycRel T x m t w (.int .i64 (T (CycM.iter T x n) : Nat)) (.int .i64 ((n : Int) + 1 + 1)) ((wr.setCell ⟨w.heap.size, CycM.iter T x n, none⟩ (.int .i64 ((n : Int) + 1))).drewN k) := by
 refine ⟨n + 1, _, ?_, hS.step hT hx h0, ?_, ?_, rfl, by simp⟩
 ·exact (hS.step hT hx h0).le hT hx
 ·obtain ⟨c, hc1, hc2, hc3⟩ := hrow.set (CycM.iter T x n) (.int .i64 ((n : Int) + 1))
  refine ⟨c, hc1, hc2, fun i hi => ?_⟩
  rw [hc3 i hi]
  by_cases e : i = CycM.iter T x n
  ·simp [e]
  ·simp [e]
 ·exact below_drewN (hb.setCell (Nat.le_refl _) _) k
theorem CycRel.next2 {T : Nat → Nat} {x m n : Nat} {t : TypeId} {w wr : World} {F : Nat → Nat} (hT : ∀ s, s < m → T s < m) (hx : x < m) (hS : CycM.Seen T x m n F)
  (hrow : wr.rowIs w.heap.size t m (fun s => .int .i64 (F s : Nat))) (hb : Below w.heap.size w wr) (h0 : F (CycM.iter T x n) = 0) (w1 : World)
  (hb1 : Below wr.heap.size (wr.setCell ⟨w.heap.size, CycM.iter T x n, none⟩ (.int .i64 ((n : Int) + 1))) w1) :
  CycRel T x m t w (.int .i64 (T (CycM.iter T x n) : Nat)) (.int .i64 ((n : Int) + 1 + 1)) w1 := by
 obtain ⟨k, G, g1, g2, g3, g4, g5, g6⟩ := CycRel.next (t := t) hT hx hS hrow hb h0 0
 have hlt : w.heap.size < wr.heap.size := hrow.lt
 exact ⟨k, G, g1, g2, g3.of_block (hb1.block _ hlt), g4.trans (hb1.mono (Nat.le_of_lt hlt)), g5, g6⟩
theorem CycRet.mk {T : Nat → Nat} {x n k : Nat} {w w' : World} {u v : Int} (h : CycM.IsCyc T x (k - 1) n) (hk : 1 ≤ k) (hv : v = (n : Int) + 1 - k) (hu : u = (k : Int) - 1) (hb : Below w.heap.size w w') :
  CycRet T x w (.returned (.tuple #[.int .i64 u, .int .i64 v])) w' :=
 ⟨k - 1, n, h, by rw [hv, hu, show ((k : Int) - 1) = ((k - 1 : Nat) : Int) by omega, show ((n : Int) + 1 - k) = (n : Int) - ((k - 1 : Nat) : Int) by omega], hb⟩
theorem setOther {w : World} {B s b o : Nat} {v : Value} (hb : b < B) (h : w.cell? ⟨b, o, none⟩ = some v) (u : Value) : (w.setCell ⟨B, s, none⟩ u).cell? ⟨b, o, none⟩ = some v := by
 rw [World.cell?_setCell_other _ _ _ _ (fun e => by have := congrArg Addr.block e; simp at this; omega)]
 exact h
end Cong
namespace Cong
open Go.RowKit Base
theorem validCong_any (m f a : Int) (w : World) :
  Calls Tryz.prog 117 #[.agg #[.int .i64 m, .int .i64 f, .int .i64 a]] w fun e w' => e = .returned (.bool (congB m f a)) ∧ Below w.heap.size w w' := by
 cases hm : inR m 2 100000
 ·go_enter Tryz.func117, Tryz.ntmps117
  go_wp2_with (go_at_call 31; refine (inRange_any _ _ _ _).mono ?_; rintro e w' ⟨rfl, rfl⟩)
  go_ret
  exact ⟨ret_bool (by simp [congB, hm]), (Below.refl _ _).alloc (Nat.le_refl _) _⟩
 ·obtain ⟨b1, b2⟩ := inR_true hm
  cases hf : inR f 0 (m - 1)
  ·go_enter Tryz.func117, Tryz.ntmps117
   go_wp2_with (go_at_call 31; refine (inRange_any _ _ _ _).mono ?_; rintro e w' ⟨rfl, rfl⟩)
   go_ret
   exact ⟨ret_bool (by simp [congB, hm, hf]), (Below.refl _ _).alloc (Nat.le_refl _) _⟩
  ·go_enter Tryz.func117, Tryz.ntmps117
   go_wp2_with (go_at_call 31; refine (inRange_any _ _ _ _).mono ?_; rintro e w' ⟨rfl, rfl⟩)
   go_ret
   exact ⟨ret_bool (by simp [congB, hm, hf]), (Below.refl _ _).alloc (Nat.le_refl _) _⟩
theorem congStep_any (m f a x : Nat) (w : World) (hm : 2 ≤ m) (hm2 : m ≤ 100000) (hf : f < m) (ha : a < m) (hx : x < m) :
  Calls Tryz.prog 69 #[.agg #[.int .i64 m, .int .i64 f, .int .i64 a], .int .i64 x] w fun e w' => e = .returned (.int .i64 (stepN m f a x : Nat)) ∧ Below w.heap.size w w' := by
 obtain ⟨p1, p2⟩ := prod_le hf hx hm2
 have H := J (stepN_int m f a x)
 have hm0 : ((m : Int) == 0) = false := by simp; omega
 go_enter Tryz.func69, Tryz.ntmps69
 go_wp2
 go_ret
 exact ⟨ret_int H.out, (Below.refl _ _).alloc (Nat.le_refl _) _⟩
theorem cycleFrom_any (m f a x : Nat) (w : World) (hm : 2 ≤ m) (hm2 : m ≤ 100000) (hf : f < m) (ha : a < m) (hx : x < m) :
  Calls Tryz.prog 121 #[.int .i64 m, .int .i64 x, .func (Fn.func 69) #[.agg #[.int .i64 m, .int .i64 f, .int .i64 a]] #[]] w (CycRet (stepN m f a) x w) := by
 have hmk := run_make_row' (P := Tryz.prog) 43 2 (.int .i64 0) 8 Tryz.underlying43 info64 rfl .i64 .i64 m (by omega) (by omega)
 have hT : ∀ s, s < m → stepN m f a s < m := fun s _ => stepN_lt (by omega) s
 go_enter Tryz.func121, Tryz.ntmps121
 go_wp2
 clear hmk
 go_loopw [1, 9] (fun xv nv wr => CycRel (stepN m f a) x m 2 w xv nv wr) (fun _ nv _ => m + 2 - (intOf nv).toNat)
 case atStart => exact CycRel.start _ _ _ _ _
 case round =>
  obtain ⟨n, F, hn, hS, hrow, hbel, rfl, rfl⟩ := hrel
  have hlt := CycM.iter_lt hT hx n
  have HS := J (hS.done hT hx)
  have hpos : F (CycM.iter (stepN m f a) x n) ≠ 0 → F (CycM.iter (stepN m f a) x n) ≤ n := fun h => (hS.pos _ hlt h).1
  have HF := J (CycRel.next2 (t := 2) (w := w) hT hx hS hrow hbel)
  have hz : w.heap.size < wr.heap.size := hrow.lt
  have ef := hrow.frozen (CycM.iter (stepN m f a) x n)
  have ec := hrow.cell hlt
  clear hS hrow
  generalize CycM.iter (stepN m f a) x n = s at *
  by_cases hz0 : F s = 0
  ·rw [hz0] at ec
   clear hpos
   go_wp2_with (go_at_call 69; refine (congStep_any m f a s _ hm hm2 hf ha hlt).mono ?_; rintro e w1 ⟨rfl, hb1⟩)
   go_roundw
   case rel => exact HF.out hz0 _ (hb1.mono (by simp))
   case measure => simp [intOf]; omega
  ·have hF1 : 1 ≤ F s := by omega
   have hF2 := hpos hz0
   clear hpos
   go_wp2
   go_ret2
   exact CycRet.mk (HS.out hz0) hF1 (by omega) rfl hbel
theorem cycle_any (m f a x : Nat) (w : World) (hm : 2 ≤ m) (hm2 : m ≤ 100000) (hf : f < m) (ha : a < m) (hx : x < m) :
  Calls Tryz.prog 74 #[.agg #[.int .i64 m, .int .i64 f, .int .i64 a], .int .i64 x] w (CycRet (stepN m f a) x w) := by
 go_enter Tryz.func74, Tryz.ntmps74
 go_wp2_with (go_at_call 121; refine (cycleFrom_any m f a x _ hm hm2 hf ha hx).mono ?_; rintro e w1 ⟨j, n, hc, rfl, hb1⟩; have HC := J hc; clear hc)
 go_ret2
 exact ⟨j, n, HC.out, rfl, ((Below.refl _ _).alloc (Nat.le_refl _) _).trans (hb1.mono (by simp))⟩
end Cong
namespace Cong
open Go.RowKit Base
def bothB (m f a x : Int) : Bool := congB m f a && inR x 0 (m - 1)
noncomputable def preB (m f a x : Int) : Int := if bothB m f a x = true then CycM.preOf (stepN m.toNat f.toNat a.toNat) x.toNat else 0
noncomputable def perB (m f a x : Int) : Int := if bothB m f a x = true then CycM.perOf (stepN m.toNat f.toNat a.toNat) x.toNat else 0
theorem preB_eq {m f a x : Int} (h : bothB m f a x = true) {j n : Nat} (hc : CycM.IsCyc (stepN m.toNat f.toNat a.toNat) x.toNat j n) : preB m f a x = j := by
 rw [preB, if_pos h, CycM.preOf_of hc]
theorem perB_eq {m f a x : Int} (h : bothB m f a x = true) {j n : Nat} (hc : CycM.IsCyc (stepN m.toNat f.toNat a.toNat) x.toNat j n) : perB m f a x = (n : Int) - j := by
 rw [perB, if_pos h, CycM.perOf_of hc]
theorem bothB_true {m f a x : Int} (h : bothB m f a x = true) : 2 ≤ m ∧ m ≤ 100000 ∧ 0 ≤ f ∧ f < m ∧ 0 ≤ a ∧ a < m ∧ 0 ≤ x ∧ x < m := by
 simp only [bothB, Bool.and_eq_true] at h
 have h1 := congB_true h.1
 have h2 := inR_true h.2
 omega
theorem isState_any (m f a x : Int) (w : World) :
  Calls Tryz.prog 67 #[.agg #[.int .i64 m, .int .i64 f, .int .i64 a], .int .i64 x] w fun e w' => e = .returned (.bool (bothB m f a x)) ∧ Below w.heap.size w w' := by
 cases hB : congB m f a
 ·go_enter Tryz.func67, Tryz.ntmps67
  go_wp2_with (go_at_call 117; refine (validCong_any m f a _).mono ?_; rintro e w1 ⟨rfl, hb1⟩)
  go_ret
  exact ⟨ret_bool (by simp [bothB, hB]), Base.Below.boxed hb1⟩
 ·obtain ⟨g1, g2, _⟩ := congB_true hB
  go_enter Tryz.func67, Tryz.ntmps67
  go_wp2_with (first | (go_at_call 117; refine (validCong_any m f a _).mono ?_; rintro e w1 ⟨rfl, hb1⟩; have d0 : w1.cell? ⟨w.heap.size, 0, none⟩ = some (.int .i64 m) := box_cells hb1 0) | (go_at_call 31; refine (inRange_any _ _ _ _).mono ?_; rintro e w' ⟨rfl, rfl⟩))
  go_ret
  exact ⟨ret_bool (by simp [bothB, hB]), Base.Below.boxed hb1⟩
end Cong
namespace Tail
open Go.RowKit Base
section
variable {P : Program} {ops : Array Oper} {md : Region.Mode} {C : World → Prop}
def wpAnyT (P : Program) (md : Region.Mode) (ops : Array Oper) (C : World → Prop) (n : Nat) (L : Array Bool → Act → Prop) : Nat → Array Bool → Act → Prop
 | 0, listed, a => L listed a
 | f + 1, listed, a => Region.ready md ops listed ≠ [] ∧ ∀ i ∈ Region.ready md ops listed, i < n ∧ qOp P ops C i (wpAnyT P md ops C n L f (listed.setIfInBounds i true)) a
theorem wpAny_of_headT {n g : Nat} {L : Array Bool → Act → Prop} {Q' : Exit → Act → World → Prop} (hL : ∀ listed a w, C w → L listed a → wpAny P md ops Q' g listed a w) :
  ∀ (f : Nat) (listed : Array Bool) (a : Act) (w : World), C w → wpAnyT P md ops C n L f listed a → wpAny P md ops Q' (f + g) listed a w
 | 0, listed, a, w, hw, h => by rw [Nat.zero_add]; exact hL _ _ _ hw h
 | f + 1, listed, a, w, hw, h => by
  rw [show f + 1 + g = (f + g) + 1 by omega]
  exact ⟨fun h0 => absurd h0 h.1, fun i hi => wpOp_of_qOp hw (fun a' w' hw' h' => wpAny_of_headT hL f _ a' w' hw' h') (h.2 i hi).2⟩
theorem wpAnyT_first {n i : Nat} {oi : Oper} {v : Value} {L : Array Bool → Act → Prop} (hi : ops[i]? = some oi) (hsel : ∀ (j : Nat) (o : Oper) cs b, ops[j]? = some o → o.op ≠ .select cs b)
  (hs : Region.sinkB md ops n = true) (hc : Region.chainB md ops n = true) (hn : n < ops.size) (hin : i < n)
  (hdone : ∀ listed a, L listed a → ∀ j ∈ Region.ready md ops listed, n ≤ j) :
  ∀ (f : Nat) (listed : Array Bool) (a : Act), HeadInv md ops n listed →
   (∀ j oj, ops[j]? = some oj → j ≠ i → listed.getD j true = false → (∀ e ∈ oj.after, Region.binds md e = true → e.on ≠ i) → oi.apart ops oj = true) →
   i ∈ Region.ready md ops listed → YieldsIn P ops C oi v a →
   wpAnyT P md ops C n L f (listed.setIfInBounds i true) (a.put oi.dst v) → wpAnyT P md ops C n L (f + 1) listed a := by
 intro f
 induction f with
 | zero =>
  intro listed a inv _ hr hy H
  have hun := (mem_ready.1 hr).1
  refine ⟨fun h => (by rw [h] at hr; cases hr), fun j hj => ?_⟩
  have hjn : j < n := by
   rcases Nat.lt_or_ge j n with h | h
   ·exact h
   ·exact absurd hj (tail_waits hs hc hn inv _ i rfl hin hun j h)
  refine ⟨hjn, ?_⟩
  by_cases hji : j = i
  ·subst hji; exact hy.qOp hi H
  ·have := hdone _ _ H j (ready_mono hj hji)
   omega
 | succ f ih =>
  intro listed a inv hfree hr hy H
  have hun := (mem_ready.1 hr).1
  refine ⟨fun h => (by rw [h] at hr; cases hr), fun j hj => ?_⟩
  have hjn : j < n := by
   rcases Nat.lt_or_ge j n with h | h
   ·exact h
   ·exact absurd hj (tail_waits hs hc hn inv _ i rfl hin hun j h)
  refine ⟨hjn, ?_⟩
  by_cases hji : j = i
  ·subst hji; exact hy.qOp hi H
  ·have h1 := (H.2 j (ready_mono hj hji)).2
   obtain ⟨hjun, oj, hoj, hall⟩ := mem_ready.1 hj
   have hnot : ∀ e ∈ oj.after, Region.binds md e = true → e.on ≠ i := fun e he hb heq => by
    have h1 := hall e he hb
    rw [heq, getD_both hun] at h1
    cases h1
   have h2 := qOp_put hoj (hfree j oj hoj hji hjun hnot) (fun cs b => hsel i oi cs b hi) (fun cs b => hsel j oj cs b hoj) hy h1
   have hfree' : ∀ k ok, ops[k]? = some ok → k ≠ i → (listed.setIfInBounds j true).getD k true = false →
     (∀ e ∈ ok.after, Region.binds md e = true → e.on ≠ i) → oi.apart ops ok = true := fun k ok hk hki hun hno => by
    refine hfree k ok hk hki ?_ hno
    by_cases hjk : j = k
    ·subst hjk; exact hjun
    ·rw [getD_set_ne true hjk] at hun; exact hun
   refine qOp_mono (fun a' h3 => ih (listed.setIfInBounds j true) a' (inv.set hj hjn) hfree' (ready_mono hr (Ne.symm hji)) h3.1 ?_) h2
   rw [Array.setIfInBounds_comm _ _ hji]
   exact h3.2
theorem wpAnyT_lex {n g : Nat} {Lq : Act → Prop} (hsel : Region.noSelect ops = true) (hs : Region.sinkB md ops n = true) (hc : Region.chainB md ops n = true) (hn : n < ops.size) :
  ∀ (l : List Oper) (k : Nat) (listed : Array Bool) (a : Act), (∀ j, j < l.length → l[j]? = ops[k + j]?) → k + l.length = n → HeadInv md ops n listed →
  Region.lexHead md ops g l.length k listed = true → wpQuiet P ops C Lq l a →
  wpAnyT P md ops C n (fun listed' a' => Region.seqB md ops g n listed' = true ∧ Lq a') l.length listed a
 | [], k, listed, a, _, hk, _, hB, h => by
  have : k = n := by simpa using hk
  subst this
  exact ⟨by simpa [Region.lexHead] using hB, h⟩
 | o :: l, k, listed, a, hl, hk, inv, hB, h => by
  have h0 : ops[k]? = some o := by simpa using (hl 0 (by simp)).symm
  simp only [List.length_cons, Region.lexHead, Bool.and_eq_true] at hB
  obtain ⟨⟨hr, hf⟩, hB'⟩ := hB
  have hkn : k < n := by simp only [List.length_cons] at hk; omega
  have hr' : k ∈ Region.ready md ops listed := by simpa using hr
  have hst : qOp P ops C k (wpQuiet P ops C Lq l) a := by unfold qOp; simp only [h0]; exact h
  obtain ⟨v, hy, hK⟩ := yieldsIn_of_qOp h0 hst
  exact wpAnyT_first h0 (Region.noSelect_spec hsel) hs hc hn hkn (fun listed' a' hL => seqB_ready hL.1) l.length listed a inv (Region.free_spec h0 hf) hr' hy
   (wpAnyT_lex hsel hs hc hn l (k + 1) _ _ (fun j hj => by have := hl (j + 1) (by simp; omega); simpa [Nat.add_assoc, Nat.add_comm 1 j] using this) (by simp only [List.length_cons] at hk; omega) (inv.set hr' hkn) hB' hK)
theorem wp_region_quiet_tail {id : Nat} {Q : Exit → Act → World → Prop} {a : Act} {w : World} {l : List Oper} (n : Nat) (hm : P.follows .mixedOrders = true) (hB : Region.lexTailB .any l.toArray n = true) (hC : C { w with drawn := w.drawn + 1 })
  (h : wpQuiet P l.toArray C (fun a' => ∀ w', C w' → wpList P l.toArray Q (l.drop n) a' w') (l.take n) a) : (Code.region id l.toArray true).wp P Q a w := by
 simp only [Region.lexTailB, Bool.and_eq_true, decide_eq_true_eq] at hB
 obtain ⟨⟨⟨⟨hsel, hn⟩, hs⟩, hc⟩, hlex⟩ := hB
 have hn' : n < l.length := by simpa using hn
 have htl : (l.take n).length = n := by simp; omega
 have hdl : (l.drop n).length = l.toArray.size - n := by simp
 have inv0 : HeadInv .any l.toArray n (Array.replicate l.toArray.size false) :=
  ⟨by simp, fun j oj _ hl => (by rw [getD_replicate_false] at hl; cases hl), fun t _ ht => getD_in (by simpa using ht) (getD_replicate_false _ _)⟩
 have H := wpAnyT_lex (C := C) (md := .any) (g := l.toArray.size - n) hsel hs hc hn (l.take n) 0 _ a (fun j hj => by
  have hj' : j < n := by rw [htl] at hj; exact hj
  simp [hj']) (by simpa using htl) inv0 (by rw [htl]; exact hlex) h
 refine wp_region_any hm ?_
 have := wpAny_of_headT (Q' := Q) (g := l.toArray.size - n) (fun listed a' w' hw' hL => by
  have := wpAny_of_seq (md := .any) (Q' := Q) (l.drop n) n listed a' w' (fun j => by simp [List.getElem?_drop]) (by rw [hdl]; exact hL.1) (hL.2 w' hw')
  rwa [hdl] at this) _ _ _ _ hC H
 rw [htl, show n + (l.toArray.size - n) = l.toArray.size by omega] at this
 exact this
theorem wp_region_below_tail {id : Nat} {Q : Exit → Act → World → Prop} {a : Act} {w : World} {l : List Oper} (n : Nat) (hm : P.follows .mixedOrders = true) (hB : Region.lexTailB .any l.toArray n = true)
  (h : wpQuiet P l.toArray (Below w.heap.size w) (fun a' => ∀ w', Below w.heap.size w w' → wpList P l.toArray Q (l.drop n) a' w') (l.take n) a) : (Code.region id l.toArray true).wp P Q a w :=
 wp_region_quiet_tail n hm hB ((Below.refl w.heap.size w).drew) h
end
end Tail
namespace Pow
open Go.RowKit Base Mem Blk CycM Cong
def thF (m f1 f2 : Nat) : Nat := f1 * f2 % m
def thA (m a1 f2 a2 : Nat) : Nat := (f2 * a1 + a2) % m
theorem step_then (m f1 a1 f2 a2 x : Nat) : stepN m (thF m f1 f2) (thA m a1 f2 a2) x = stepN m f2 a2 (stepN m f1 a1 x) := by
 unfold stepN thF thA
 rw [Nat.add_mod, Nat.mul_mod, Nat.mod_mod, Nat.mod_mod, ← Nat.mul_mod, ← Nat.add_mod]
 conv => rhs; rw [Nat.add_mod, Nat.mul_mod, Nat.mod_mod, ← Nat.mul_mod, ← Nat.add_mod]
 congr 1
 grind
theorem iter_two {T U : Nat → Nat} {m : Nat} (hT : ∀ s, s < m → T s < m) (hU : ∀ s, s < m → U s = T (T s)) {x : Nat} (hx : x < m) : ∀ q, iter U x q = iter T x (2 * q)
 | 0 => rfl
 | q + 1 => by
  rw [iter_succ, iter_two hT hU hx q, hU _ (iter_lt hT hx _), show 2 * (q + 1) = 2 * q + 1 + 1 by omega, iter_succ, iter_succ]
def PowOf (m f a n F A : Nat) : Prop := F < m ∧ A < m ∧ ∀ x, x < m → stepN m F A x = iter (stepN m f a) x n
structure PInv (m f a n k Fo Ao Fc Ac : Nat) : Prop where
 h1 : Fo < m
 h2 : Ao < m
 h3 : Fc < m
 h4 : Ac < m
 is : ∀ x, x < m → iter (stepN m Fc Ac) (stepN m Fo Ao x) k = iter (stepN m f a) x n
theorem PInv.start {m f a n : Nat} (hm : 2 ≤ m) (hf : f < m) (ha : a < m) : PInv m f a n n 1 0 f a :=
 ⟨by omega, by omega, hf, ha, fun x hx => by rw [show stepN m 1 0 x = x by simp [stepN, Nat.mod_eq_of_lt hx]]⟩
theorem PInv.odd {m f a n q Fo Ao Fc Ac : Nat} (h : PInv m f a n (2 * q + 1) Fo Ao Fc Ac) : PInv m f a n q (thF m Fo Fc) (thA m Ao Fc Ac) (thF m Fc Fc) (thA m Ac Fc Ac) := by
 have h0 : 0 < m := by have := h.h1; omega
 have hT : ∀ s, s < m → stepN m Fc Ac s < m := fun s _ => Nat.mod_lt _ h0
 refine ⟨Nat.mod_lt _ h0, Nat.mod_lt _ h0, Nat.mod_lt _ h0, Nat.mod_lt _ h0, fun x hx => ?_⟩
 rw [step_then, ← h.is x hx, iter_two hT (fun s _ => step_then m Fc Ac Fc Ac s) (hT _ (stepN_lt h0 x)), show 2 * q + 1 = 1 + 2 * q by omega, iter_add]
 rfl
theorem PInv.even {m f a n q Fo Ao Fc Ac : Nat} (h : PInv m f a n (2 * q) Fo Ao Fc Ac) : PInv m f a n q Fo Ao (thF m Fc Fc) (thA m Ac Fc Ac) := by
 have h0 : 0 < m := by have := h.h1; omega
 have hT : ∀ s, s < m → stepN m Fc Ac s < m := fun s _ => Nat.mod_lt _ h0
 refine ⟨h.h1, h.h2, Nat.mod_lt _ h0, Nat.mod_lt _ h0, fun x hx => ?_⟩
 rw [← h.is x hx, iter_two hT (fun s _ => step_then m Fc Ac Fc Ac s) (stepN_lt h0 x)]
theorem PInv.done {m f a n Fo Ao Fc Ac : Nat} (h : PInv m f a n 0 Fo Ao Fc Ac) : PowOf m f a n Fo Ao := ⟨h.h1, h.h2, h.is⟩
theorem thF_int (m f1 f2 : Nat) : ((f1 : Int) * (f2 : Int)) % (m : Int) = ((thF m f1 f2 : Nat) : Int) := by unfold thF; simp
theorem implThen_any (m f1 a1 f2 a2 : Nat) (w : World) (hm : 2 ≤ m) (hm2 : m ≤ 100000) (hf1 : f1 < m) (ha1 : a1 < m) (hf2 : f2 < m) (ha2 : a2 < m) :
  Calls Tryz.prog 120 #[.agg #[.int .i64 ((m : Nat) : Int), .int .i64 ((f1 : Nat) : Int), .int .i64 ((a1 : Nat) : Int)], .agg #[.int .i64 ((m : Nat) : Int), .int .i64 ((f2 : Nat) : Int), .int .i64 ((a2 : Nat) : Int)]] w fun e w' => e = .returned (.agg #[.int .i64 ((m : Nat) : Int), .int .i64 ((thF m f1 f2 : Nat) : Int), .int .i64 ((thA m a1 f2 a2 : Nat) : Int)]) ∧ Below w.heap.size w w' := by
 obtain ⟨p1, p2⟩ := prod_le hf1 hf2 hm2
 have hm0 : ((m : Int) == 0) = false := by simp; omega
 obtain ⟨W3, hW3⟩ : ∃ W3, W3 = ((w.alloc (.cells #[.int .i64 ((m : Nat) : Int), .int .i64 ((f1 : Nat) : Int), .int .i64 ((a1 : Nat) : Int)] 27)).alloc (.cells #[.int .i64 ((m : Nat) : Int), .int .i64 ((f2 : Nat) : Int), .int .i64 ((a2 : Nat) : Int)] 27)).alloc (.cells #[.int .i64 0, .int .i64 0, .int .i64 0] 27) := ⟨_, rfl⟩
 have B3 : Below w.heap.size w W3 := by rw [hW3]; exact (((Below.refl _ _).alloc (Nat.le_refl _) _).alloc (by simp) _).alloc (by simp; omega) _
 have k0 : Blk W3 w.heap.size 27 #[.int .i64 ((m : Nat) : Int), .int .i64 ((f1 : Nat) : Int), .int .i64 ((a1 : Nat) : Int)] := by rw [hW3]; exact ((Blk.new _ _ _).alloc _).alloc _
 have k1 : Blk W3 (w.heap.size + 1) 27 #[.int .i64 ((m : Nat) : Int), .int .i64 ((f2 : Nat) : Int), .int .i64 ((a2 : Nat) : Int)] := by rw [hW3]; exact (Blk.newAt _ _ (by simp)).alloc _
 have k2 : Blk W3 (w.heap.size + 1 + 1) 27 #[.int .i64 0, .int .i64 0, .int .i64 0] := by rw [hW3]; exact Blk.newAt _ _ (by simp)
 have HS : Hid (∀ w, Calls Tryz.prog 69 #[.agg #[.int .i64 ((m : Nat) : Int), .int .i64 ((f2 : Nat) : Int), .int .i64 ((a2 : Nat) : Int)], .int .i64 (a1 : Int)] w fun e w' => e = .returned (.int .i64 (thA m a1 f2 a2 : Nat)) ∧ Below w.heap.size w w') := J fun w => congStep_any m f2 a2 a1 w hm hm2 hf2 ha2 ha1
 have HW := J hW3
 have HB := J B3
 have K0 := J k0
 have K1 := J k1
 have K2 := J k2
 have HF := J (thF_int m f1 f2)
 clear hW3 B3 k0 k1 k2
 generalize thF m f1 f2 = F at *
 generalize thA m a1 f2 a2 = A at *
 go_enter Tryz.func120, Tryz.ntmps120
 go_wp2_with fail
 rw [← HW.out]
 (refine Tail.wp_region_below_tail 15 (by kernel_rfl) (by kernel_rfl) ?_; simp only [List.take_succ_cons, List.take_zero, List.drop_succ_cons, List.drop_zero]; (repeat (first | go_big_quiet_skip | (go_big_quiet_want; go_big_quiet_op; first | go_big_quiet_on | (refine ⟨_, fun _ _ => rfl, ?_⟩; go_big_quiet_on) | (apply Exists.intro; refine ⟨fun wq hq => ?_, ?_⟩; (have x0 := (K0.out.belowS hq).at 0 (v := .int .i64 (m : Int)) rfl; have x1 := (K0.out.belowS hq).at 1 (v := .int .i64 (f1 : Int)) rfl; have x2 := (K0.out.belowS hq).at 2 (v := .int .i64 (a1 : Int)) rfl; have y0 := (K1.out.belowS hq).at 0 (v := .int .i64 (m : Int)) rfl; have y1 := (K1.out.belowS hq).at 1 (v := .int .i64 (f2 : Int)) rfl; have y2 := (K1.out.belowS hq).at 2 (v := .int .i64 (a2 : Int)) rfl; first | (go_simp; done) | (go_simp; rfl) | (go_at_call 69; refine (HS.out _).mono ?_; rintro e w1 ⟨rfl, hb1⟩; exact ⟨rfl, Base.Below.nextA hq hb1⟩)); go_big_quiet_on)))); refine wpQuiet_nil ?_; intro wq hq)
 have K2q := K2.out.belowS hq
 have g0 := K2q.frz 0
 have g1 := K2q.frz 1
 have g2 := K2q.frz 2
 have e0 := K2q.at 0 (v := .int .i64 0) rfl
 have e1 := K2q.at 1 (v := .int .i64 0) rfl
 have e2 := K2q.at 2 (v := .int .i64 0) rfl
 have HQ := J (HB.out.trans (hq.mono HB.out.size))
 have KQ := J K2q
 clear hq K2q
 go_wp2
 rw [HF.out]
 have S := ((KQ.out.setTo 0 (.int .i64 (m : Int)) rfl).setTo 1 (.int .i64 (F : Int)) rfl).setTo 2 (.int .i64 (A : Int)) rfl
 have q0 := S.at 0 rfl
 have q1 := S.at 1 rfl
 have q2 := S.at 2 rfl
 refine bodyPost_ret (v := .agg #[.int .i64 ((m : Nat) : Int), .int .i64 ((F : Nat) : Int), .int .i64 ((A : Nat) : Int)]) (by simp [results, Tryz.results120, go_sem, q0, q1, q2]) rfl ⟨rfl, ?_⟩
 exact ((HQ.out.setCell (by simp; omega) _).setCell (by simp; omega) _).setCell (by simp; omega) _
def powA (m f a n : Nat) : Nat := iter (stepN m f a) 0 n
def powF (m f a n : Nat) : Nat := (iter (stepN m f a) 1 n + m - iter (stepN m f a) 0 n) % m
theorem PowOf.eq {m f a n F A : Nat} (hm : 2 ≤ m) (h : PowOf m f a n F A) : F = powF m f a n ∧ A = powA m f a n := by
 obtain ⟨h1, h2, h3⟩ := h
 have e0 := h3 0 (by omega)
 have e1 := h3 1 (by omega)
 unfold powF powA
 rw [← e0, ← e1]
 simp only [stepN, Nat.mul_zero, Nat.zero_add, Nat.mul_one, Nat.mod_eq_of_lt h2, and_true]
 by_cases hlt : F + A < m
 ·rw [Nat.mod_eq_of_lt hlt, show F + A + m - A = F + m by omega, Nat.add_mod_right, Nat.mod_eq_of_lt h1]
 ·have e3 : (F + A) % m = F + A - m := by rw [Nat.mod_eq_sub_mod (by omega), Nat.mod_eq_of_lt (by omega)]
  rw [e3, show F + A - m + m - A = F by omega, Nat.mod_eq_of_lt h1]
theorem PowOf.zero {m f a : Nat} (hm : 2 ≤ m) : PowOf m f a 0 1 0 := ⟨by omega, by omega, fun x hx => by simp [stepN, iter, Nat.mod_eq_of_lt hx]⟩
theorem PowOf.succ {m f a n F A : Nat} (hm : 2 ≤ m) (h : PowOf m f a n F A) : PowOf m f a (n + 1) (thF m F f) (thA m A f a) :=
 ⟨Nat.mod_lt _ (by omega), Nat.mod_lt _ (by omega), fun x hx => by rw [step_then, h.2.2 x hx]; rfl⟩
theorem powOf {m f a : Nat} (hm : 2 ≤ m) : ∀ n, PowOf m f a n (powF m f a n) (powA m f a n)
 | 0 => by
  have h := PowOf.zero (f := f) (a := a) hm
  obtain ⟨e1, e2⟩ := h.eq hm
  rw [← e1, ← e2]; exact h
 | n + 1 => by
  have h := (powOf (f := f) (a := a) hm n).succ hm
  obtain ⟨e1, e2⟩ := h.eq hm
  rw [← e1, ← e2]; exact h
def PowRet (m f a n : Nat) (w : World) (e : Ending) (w' : World) : Prop := e = .returned (.agg #[.int .i64 ((m : Nat) : Int), .int .i64 ((powF m f a n : Nat) : Int), .int .i64 ((powA m f a n : Nat) : Int)]) ∧ Below w.heap.size w w'
theorem PowRet.of {m f a n F A : Nat} {w w' : World} {e : Ending} (hm : 2 ≤ m) (h : PowOf m f a n F A) (he : e = .returned (.agg #[.int .i64 ((m : Nat) : Int), .int .i64 ((F : Nat) : Int), .int .i64 ((A : Nat) : Int)])) (hb : Below w.heap.size w w') : PowRet m f a n w e w' := by
 obtain ⟨e1, e2⟩ := h.eq hm
 subst e1 e2
 exact ⟨he, hb⟩
def PRel (m f a n r p q : Nat) (w : World) (nv : Value) (wr : World) : Prop :=
 ∃ k Fo Ao Fc Ac : Nat, k ≤ n ∧ nv = .int .i64 (k : Int) ∧ PInv m f a n k Fo Ao Fc Ac ∧ Blk wr r 27 #[.int .i64 0, .int .i64 0, .int .i64 0] ∧
  Blk wr p 27 #[.int .i64 ((m : Nat) : Int), .int .i64 ((Fo : Nat) : Int), .int .i64 ((Ao : Nat) : Int)] ∧ Blk wr q 27 #[.int .i64 ((m : Nat) : Int), .int .i64 ((Fc : Nat) : Int), .int .i64 ((Ac : Nat) : Int)] ∧ Below w.heap.size w wr
theorem implPower_any (m f a n : Nat) (w : World) (hm : 2 ≤ m) (hm2 : m ≤ 100000) (hf : f < m) (ha : a < m) (hn : n ≤ 1000000000000000000) :
  Calls Tryz.prog 72 #[.agg #[.int .i64 ((m : Nat) : Int), .int .i64 ((f : Nat) : Int), .int .i64 ((a : Nat) : Int)], .int .i64 (n : Int)] w (PowRet m f a n w) := by
 have HI := J (PInv.start (n := n) hm hf ha)
 have hm0 : ((m : Int) == 0) = false := by simp; omega
 have h1m : (1 : Int) % (m : Int) = 1 := Int.emod_eq_of_lt (by omega) (by omega)
 go_enter Tryz.func72, Tryz.ntmps72
 go_wp2
 go_region
 all_goals
  go_wp2
  clear h1m
  go_loopw [1] (fun nv wr => PRel m f a n (w.heap.size + 1) (w.heap.size + 1 + 1) w.heap.size w nv wr) (fun nv _ => (intOf nv).toNat)
 case atStart =>
  have B3 := ((((Below.refl w.heap.size w).alloc (Nat.le_refl _) (.cells #[.int .i64 ((m : Nat) : Int), .int .i64 ((f : Nat) : Int), .int .i64 ((a : Nat) : Int)] 27)).alloc (by simp) (.cells #[.int .i64 0, .int .i64 0, .int .i64 0] 27)).alloc (by simp; omega) (.cells #[.int .i64 ((m : Nat) : Int), .int .i64 ((1 : Nat) : Int), .int .i64 ((0 : Nat) : Int)] 27)).drew
  exact ⟨n, 1, 0, f, a, Nat.le_refl _, rfl, HI.out, ((Blk.newAt _ _ (by simp)).alloc _).drew, (Blk.newAt _ _ (by simp)).drew, (((Blk.new _ _ _).alloc _).alloc _).drew, B3⟩
 case round =>
  obtain ⟨k, Fo, Ao, Fc, Ac, hk, rfl, hP, k0, kp, kq, hbel⟩ := hrel
  have K0 := J k0
  have KP := J kp
  have KQ := J kq
  have HB := J hbel
  have hlp := kp.lt
  have hP' := J hP
  obtain ⟨b1, b2, b3, b4, _⟩ := hP
  have hz := hbel.size
  clear hbel k0
  have p0 := kp.at 0 (v := .int .i64 (m : Int)) rfl
  have p1 := kp.at 1 (v := .int .i64 (Fo : Int)) rfl
  have p2 := kp.at 2 (v := .int .i64 (Ao : Int)) rfl
  by_cases hk0 : k = 0
  ·subst hk0
   have r0 := K0.out.at 0 (v := .int .i64 0) rfl
   have r1 := K0.out.at 1 (v := .int .i64 0) rfl
   have r2 := K0.out.at 2 (v := .int .i64 0) rfl
   have f0 := K0.out.frz 0
   have f1 := K0.out.frz 1
   have f2 := K0.out.frz 2
   clear kp kq
   go_wp2
   have S := K0.out.set3 (.int .i64 (m : Int)) (.int .i64 (Fo : Int)) (.int .i64 (Ao : Int))
   have q0 := S.at 0 rfl
   have q1 := S.at 1 rfl
   have q2 := S.at 2 rfl
   simp only [put3] at q0 q1 q2
   refine bodyPost_ret (v := .agg #[.int .i64 ((m : Nat) : Int), .int .i64 ((Fo : Nat) : Int), .int .i64 ((Ao : Nat) : Int)]) (by simp [results, Tryz.results72, go_sem, q0, q1, q2]) rfl (PowRet.of hm hP'.out.done rfl ?_)
   exact below_put3 HB.out (by simp) _ _ _
  ·have c0 := kq.at 0 (v := .int .i64 (m : Int)) rfl
   have c1 := kq.at 1 (v := .int .i64 (Fc : Int)) rfl
   have c2 := kq.at 2 (v := .int .i64 (Ac : Int)) rfl
   clear kp kq
   by_cases hodd : k % 2 = 1
   ·obtain ⟨q, rfl⟩ : ∃ q, k = 2 * q + 1 := ⟨k / 2, by omega⟩
    have HC := J (implThen_any m Fo Ao Fc Ac wr hm hm2 b1 b2 b3 b4)
    have HN := J hP'.out.odd
    go_wp2_with fail
    refine HC.out.mono ?_
    rintro e w1 ⟨rfl, hb1⟩
    clear p0 p1 p2 c0 c1 c2
    have s0 := KP.out.belowS hb1
    have t0 := KQ.out.belowS hb1
    have n0 := J (K0.out.belowS hb1)
    have hb1' := J (HB.out.trans (hb1.mono hz))
    obtain ⟨w2, hw2⟩ : ∃ w2, w2 = put3 w1 (w.heap.size + 1 + 1) (.int .i64 (m : Int)) (.int .i64 (thF m Fo Fc : Nat)) (.int .i64 (thA m Ao Fc Ac : Nat)) := ⟨_, rfl⟩
    have S2 : Blk w2 (w.heap.size + 1 + 1) 27 _ := hw2 ▸ s0.set3 _ _ _
    have T2 : Blk w2 w.heap.size 27 _ := hw2 ▸ t0.oth3 _ _ _ (by omega)
    have N2 := J (show Blk w2 (w.heap.size + 1) 27 _ from hw2 ▸ n0.out.oth3 _ _ _ (by omega))
    have B2 := J (show Below w.heap.size w w2 from hw2 ▸ below_put3 hb1'.out (by omega) _ _ _)
    have HS2 := J S2
    have HT2 := J T2
    unfold put3 at hw2
    have HW2 := J hw2
    have f0 := s0.frz 0
    have f1 := s0.frz 1
    have f2 := s0.frz 2
    have u0 := s0.at 0 (v := .int .i64 (m : Int)) rfl
    have u1 := s0.at 1 (v := .int .i64 (Fo : Int)) rfl
    have u2 := s0.at 2 (v := .int .i64 (Ao : Int)) rfl
    have c0 := t0.at 0 (v := .int .i64 (m : Int)) rfl
    have c1 := t0.at 1 (v := .int .i64 (Fc : Int)) rfl
    have c2 := t0.at 2 (v := .int .i64 (Ac : Int)) rfl
    have HC2 := J (implThen_any m Fc Ac Fc Ac w2 hm hm2 b3 b4 b3 b4)
    clear S2 T2 hw2 s0 t0 hb1
    generalize thF m Fo Fc = Fo2 at *
    generalize thA m Ao Fc Ac = Ao2 at *
    generalize thF m Fc Fc = Fc2 at *
    generalize thA m Ac Fc Ac = Ac2 at *
    go_wp2_with fail
    rw [← HW2.out]
    refine HC2.out.mono ?_
    rintro e w3 ⟨rfl, hb3⟩
    clear c0 c1 c2 u0 u1 u2 f0 f1 f2
    have s3 := HS2.out.belowS hb3
    have t3 := HT2.out.belowS hb3
    have g0 := t3.frz 0
    have g1 := t3.frz 1
    have g2 := t3.frz 2
    have v0 := t3.at 0 (v := .int .i64 (m : Int)) rfl
    have v1 := t3.at 1 (v := .int .i64 (Fc : Int)) rfl
    have v2 := t3.at 2 (v := .int .i64 (Ac : Int)) rfl
    have HS3 := J s3
    have HT3 := J t3
    have HN3 := J (N2.out.belowS hb3)
    have HB3 := J (B2.out.trans (hb3.mono B2.out.size))
    clear s3 t3 hb3
    go_wp2
    go_roundw
    case rel => exact ⟨q, Fo2, Ao2, Fc2, Ac2, by omega, by go_num, HN.out, HN3.out.oth3 _ _ _ (by omega), HS3.out.oth3 _ _ _ (by omega), HT3.out.set3 _ _ _, below_put3 HB3.out (by omega) _ _ _⟩
    case measure => simp [intOf]; omega
   ·obtain ⟨q, rfl⟩ : ∃ q, k = 2 * q := ⟨k / 2, by omega⟩
    have HC2 := J (implThen_any m Fc Ac Fc Ac wr hm hm2 b3 b4 b3 b4)
    have HN := J hP'.out.even
    generalize thF m Fc Fc = Fc2 at *
    generalize thA m Ac Fc Ac = Ac2 at *
    go_wp2_with fail
    refine HC2.out.mono ?_
    rintro e w3 ⟨rfl, hb3⟩
    clear p0 p1 p2 c0 c1 c2
    have s3 := KP.out.belowS hb3
    have t3 := KQ.out.belowS hb3
    have g0 := t3.frz 0
    have g1 := t3.frz 1
    have g2 := t3.frz 2
    have v0 := t3.at 0 (v := .int .i64 (m : Int)) rfl
    have v1 := t3.at 1 (v := .int .i64 (Fc : Int)) rfl
    have v2 := t3.at 2 (v := .int .i64 (Ac : Int)) rfl
    have HS3 := J s3
    have HT3 := J t3
    have HN3 := J (K0.out.belowS hb3)
    have HB3 := J (HB.out.trans (hb3.mono hz))
    clear s3 t3 hb3
    go_wp2
    go_roundw
    case rel => exact ⟨q, Fo, Ao, Fc2, Ac2, by omega, by go_num, HN.out, HN3.out.oth3 _ _ _ (by omega), HS3.out.oth3 _ _ _ (by omega), HT3.out.set3 _ _ _, below_put3 HB3.out (by omega) _ _ _⟩
    case measure => simp [intOf]; omega
end Pow
end Go.Proofs.YtgipnbeipfhekaaGreatDoor

/- Small contracts that nearly all walks use: the tests of a range, least and greatest. -/
import Derived.Test.YtgipnbeipfhekaaGreatDoorRows
import Derived.WalkKit
import Derived.Lib.Hide
import Derived.Deep.QuietTactic
import Derived.BigQuiet
import Derived.Deep.Draws
import Derived.Below
import Derived.Outline
import Derived.Deep.OwnRows
import Derived.OwnWalk
import Derived.Laws.OwnMore
import Derived.Laws.Rows
import Derived.Maps.AppendAt
import Derived.Lib.Builder
import Derived.Lib.UnsafeStr
import Derived.Lib.Strings
import Derived.Lib.Walk
import Derived.Laws.Externs
import Derived.Shelf.RegionOpenPlain
import Derived.Laws.BitsAllLaws
import Derived.Laws.BitsLemmas
namespace Go.Proofs.YtgipnbeipfhekaaGreatDoor.Base
open Go.RowKit Go.Proofs.YtgipnbeipfhekaaGreatDoor
set_option linter.unusedVariables false
theorem ret_int {k : IntKind} {a b : Int} (h : a = b) : Ending.returned (.int k a) = .returned (.int k b) := by rw [h]
theorem ret_bool {a b : Bool} (h : a = b) : Ending.returned (.bool a) = .returned (.bool b) := by rw [h]
def inR (n lo hi : Int) : Bool := decide (lo ≤ n) && decide (n ≤ hi)
theorem inR_true {n lo hi : Int} (h : inR n lo hi = true) : lo ≤ n ∧ n ≤ hi := by simpa [inR] using h
theorem inR_yes {n lo hi : Int} (h : lo ≤ n ∧ n ≤ hi) : inR n lo hi = true := by simp [inR, h.1, h.2]
theorem inRange_any (n lo hi : Int) (w : World) :
  Calls Tryz.prog 31 #[.int .i64 n, .int .i64 lo, .int .i64 hi] w fun e w' => e = .returned (.bool (inR n lo hi)) ∧ w = w' := by
 by_cases h1 : lo ≤ n
 all_goals by_cases h2 : n ≤ hi
 all_goals
  go_enter Tryz.func31, Tryz.ntmps31
  go_wp2
  go_ret
  exact ⟨ret_bool (by simp [inR, h1, h2]), rfl⟩
theorem l00In_any (n lo hi : Int) (w : World) :
  Calls Tryz.prog 38 #[.int .i64 n, .int .i64 lo, .int .i64 hi] w fun e w' => e = .returned (.bool (inR n lo hi)) ∧ w = w' := by
 by_cases h1 : lo ≤ n
 all_goals by_cases h2 : n ≤ hi
 all_goals
  go_enter Tryz.func38, Tryz.ntmps38
  go_wp2
  go_ret
  exact ⟨ret_bool (by simp [inR, h1, h2]), rfl⟩
theorem inRange_q (n lo hi : Int) (w : World) :
  Calls Tryz.prog 31 #[.int .i64 n, .int .i64 lo, .int .i64 hi] w fun e w' => e = .returned (.bool (inR n lo hi)) ∧ w' = w :=
 (inRange_any n lo hi w).mono fun _ _ h => ⟨h.1, h.2.symm⟩
theorem l00In_q (n lo hi : Int) (w : World) :
  Calls Tryz.prog 38 #[.int .i64 n, .int .i64 lo, .int .i64 hi] w fun e w' => e = .returned (.bool (inR n lo hi)) ∧ w' = w :=
 (l00In_any n lo hi w).mono fun _ _ h => ⟨h.1, h.2.symm⟩
theorem inRange_qb {n lo hi : Int} {r : Bool} (h : inR n lo hi = r) (w : World) :
  Calls Tryz.prog 31 #[.int .i64 n, .int .i64 lo, .int .i64 hi] w fun e w' => e = .returned (.bool r) ∧ w' = w := by
 subst h; exact inRange_q n lo hi w
theorem l00In_qb {n lo hi : Int} {r : Bool} (h : inR n lo hi = r) (w : World) :
  Calls Tryz.prog 38 #[.int .i64 n, .int .i64 lo, .int .i64 hi] w fun e w' => e = .returned (.bool r) ∧ w' = w := by
 subst h; exact l00In_q n lo hi w
theorem bcell {W w1 : World} (hb : Below W.heap.size W w1) : (∀ b o, b < W.heap.size → w1.cell? ⟨b, o, none⟩ = W.cell? ⟨b, o, none⟩) ∧ (∀ b o, b < W.heap.size → w1.frozen? ⟨b, o, none⟩ = W.frozen? ⟨b, o, none⟩) :=
 ⟨fun b o h => hb.cell (p := ⟨b, o, none⟩) h, fun b o h => hb.frozen (p := ⟨b, o, none⟩) h⟩
theorem below_drewN {B : Nat} {a w : World} (h : Below B a w) (n : Nat) : Below B a (w.drewN n) := ⟨h.os, h.tape, h.output, h.size, h.block⟩
theorem box_cells {w wX : World} {cs : Array Value} {T : TypeId} (h : Below (w.alloc (.cells cs T)).heap.size (w.alloc (.cells cs T)) wX) (i : Nat) : wX.cell? ⟨w.heap.size, i, none⟩ = cs[i]? := by
 rw [h.cell (p := ⟨w.heap.size, i, none⟩) (by simp)]
 exact World.cell?_alloc_new w cs T i
theorem Below.next {B : Nat} {w w1 w2 : World} (h : Below B w w1) (h2 : Below w1.heap.size w1 w2) (hB : B ≤ w.heap.size) : Below B w w2 := h.trans (h2.mono (Nat.le_trans hB h.size))
theorem Below.nextA {w w1 w2 : World} (h : Below w.heap.size w w1) (h2 : Below w1.heap.size w1 w2) : Below w.heap.size w w2 := h.trans (h2.mono h.size)
theorem Below.boxed {w w1 : World} {o : Obj} (h : Below (w.alloc o).heap.size (w.alloc o) w1) : Below w.heap.size w w1 := ((Below.refl _ _).alloc (Nat.le_refl _) _).trans (h.mono (by simp))
theorem wp_region_below {P : Program} {id : Nat} {Q : Exit → Act → World → Prop} {a : Act} {w : World} {l : List Oper} (hm : P.follows .mixedOrders = true) (hB : Region.lexB .any l.toArray = true)
  (h : wpQuiet P l.toArray (Below w.heap.size w) (fun a' => ∀ w', Below w.heap.size w w' → Q .normal a' w') l a) : (Code.region id l.toArray true).wp P Q a w :=
 wp_region_quiet (C := Below w.heap.size w) hm hB ((Below.refl w.heap.size w).drew) (by simpa using h)
attribute [irreducible] inR
end Go.Proofs.YtgipnbeipfhekaaGreatDoor.Base
namespace Go.Proofs.YtgipnbeipfhekaaGreatDoor.Mem
open Go.RowKit Go.Proofs.YtgipnbeipfhekaaGreatDoor Go.Proofs.YtgipnbeipfhekaaGreatDoor.Base
set_option linter.unusedVariables false
def marks (k n : Nat) : List Int := (List.range n).map fun i => ((k + i : Nat) : Int)
def mk : Nat → List (List Int) → List (List Int)
 | _, [] => []
 | k, xs :: r => marks k xs.length :: mk (k + xs.length) r
def RdI (w : World) (B : Nat) (A : Option Addr) (xs : List Int) : Prop :=
 0 < xs.length → ∃ b off, A = some ⟨b, off, none⟩ ∧ b < B ∧ ∀ i, i < xs.length → w.cell? ⟨b, off + i, none⟩ = some (.int .i64 (xs.getD i 0))
theorem RdI.below {w w' : World} {B C : Nat} {A : Option Addr} {xs : List Int} (h : RdI w B A xs) (hb : Below C w w') (hBC : B ≤ C) : RdI w' B A xs := fun h0 => by
 obtain ⟨b, off, e, hlt, hc⟩ := h h0
 exact ⟨b, off, e, hlt, fun i hi => (hb.cell (p := ⟨b, off + i, none⟩) (by show b < C; omega)).trans (hc i hi)⟩
theorem RdI.more {w : World} {B C : Nat} {A : Option Addr} {xs : List Int} (h : RdI w B A xs) (hBC : B ≤ C) : RdI w C A xs := fun h0 => by
 obtain ⟨b, off, e, hlt, hc⟩ := h h0
 exact ⟨b, off, e, by omega, hc⟩
theorem RdI.drewN {w : World} {B : Nat} {A : Option Addr} {xs : List Int} (h : RdI w B A xs) (n : Nat) : RdI (w.drewN n) B A xs := h.below (below_drewN (Below.refl B w) n) (Nat.le_refl _)
def Drawn (w w' : World) : Prop := ∃ m, w' = w.drewN m
theorem Drawn.refl (w : World) : Drawn w w := ⟨0, rfl⟩
theorem Drawn.next {w w' : World} (h : Drawn w w') (n : Nat) : Drawn w (w'.drewN n) := by
 obtain ⟨m, rfl⟩ := h
 exact ⟨m + n, by rw [World.drewN_drewN]⟩
theorem Drawn.below {B : Nat} {w w' : World} (h : Drawn w w') : Below B w w' := by
 obtain ⟨m, rfl⟩ := h
 exact below_drewN (Below.refl _ _) m
def ints (xs : List Int) : List Value := xs.map (Value.int .i64)
theorem ints_len (xs : List Int) : (ints xs).length = xs.length := by simp [ints]
theorem ints_get (xs : List Int) (i : Nat) (h : i < xs.length) : (ints xs)[i]? = some (.int .i64 (xs.getD i 0)) := by simp [ints, List.getD, h]
theorem ints_one (xs : List Int) : ∀ u ∈ ints xs, u.oneCell' = true := by
 intro u hu
 simp only [ints, List.mem_map] at hu
 obtain ⟨x, _, rfl⟩ := hu
 rfl
def OwnI (w : World) (B : Nat) (u : Value) (xs : List Int) : Prop := w.ownsRow B 2 1 u xs.length (ints xs)
theorem ownsRow_form {w : World} {base : Nat} {e : TypeId} {size n : Nat} {v : Value} {xs : List Value} (h : w.ownsRow base e size v n xs) : ∃ A c, v = .slice A n c ∧ (0 < n → ∃ g, A = some ⟨g, 0, none⟩ ∧ base ≤ g ∧ g < w.heap.size) := by
 rcases h.2 with ⟨rfl, rfl⟩ | ⟨g, cap, cur, rfl, hb, hh, _⟩
 ·exact ⟨none, 0, rfl, fun h => absurd h (Nat.lt_irrefl 0)⟩
 ·refine ⟨some ⟨g, 0, none⟩, cap, rfl, fun _ => ⟨g, rfl, hb, ?_⟩⟩
  rcases Nat.lt_or_ge g w.heap.size with hlt | hge
  ·exact hlt
  ·rw [Array.getElem?_eq_none hge] at hh; cases hh
theorem ownsRow_below {w w' : World} {base : Nat} {e : TypeId} {size n : Nat} {v : Value} {xs : List Value} (h : w.ownsRow base e size v n xs) (hb : Below w.heap.size w w') : w'.ownsRow base e size v n xs := by
 refine ⟨h.1, ?_⟩
 rcases h.2 with h0 | ⟨g, cap, cur, rfl, h1, hh, h2⟩
 ·exact .inl h0
 ·have hlt : g < w.heap.size := by
   rcases Nat.lt_or_ge g w.heap.size with hlt | hge
   ·exact hlt
   ·rw [Array.getElem?_eq_none hge] at hh; cases hh
  exact .inr ⟨g, cap, cur, rfl, h1, (hb.block g hlt).trans hh, h2⟩
theorem ownsRow_base {w : World} {base base' : Nat} {e : TypeId} {size n : Nat} {v : Value} {xs : List Value} (h : w.ownsRow base e size v n xs) (hb : base' ≤ base) : w.ownsRow base' e size v n xs := by
 refine ⟨h.1, ?_⟩
 rcases h.2 with h0 | ⟨g, cap, cur, rfl, h1, h2⟩
 ·exact .inl h0
 ·exact .inr ⟨g, cap, cur, rfl, by omega, h2⟩
theorem OwnI.rd {w : World} {B n c : Nat} {A : Option Addr} {xs : List Int} (h : OwnI w B (.slice A n c) xs) : RdI w w.heap.size A xs := fun h0 => by
 obtain ⟨A', c', e, hf⟩ := ownsRow_form h
 injection e with e1 e2 e3
 subst e1 e2 e3
 obtain ⟨g, rfl, _, hlt⟩ := hf h0
 refine ⟨g, 0, rfl, hlt, fun i hi => ?_⟩
 rw [Nat.zero_add, World.ownsRow.cellAt h i (by omega), ints_get xs i hi]
theorem OwnI.form {w : World} {B : Nat} {u : Value} {xs : List Int} (h : OwnI w B u xs) : ∃ A c, u = .slice A xs.length c ∧ (0 < xs.length → ∃ g, A = some ⟨g, 0, none⟩ ∧ B ≤ g ∧ g < w.heap.size) := ownsRow_form h
theorem OwnI.below {w w' : World} {B : Nat} {u : Value} {xs : List Int} (h : OwnI w B u xs) (hb : Below w.heap.size w w') : OwnI w' B u xs := ownsRow_below h hb
theorem grown_trans {a b c : World} {row : Option Nat} (h : a.grownBy b row) (k : b.grownBy c row) : a.grownBy c row :=
 ⟨k.os.trans h.os, k.tape.trans h.tape, k.output.trans h.output, Nat.le_trans h.size k.size, fun i hi hne => (k.block i (Nat.lt_of_lt_of_le hi h.size) hne).trans (h.block i hi hne)⟩
theorem ints_set (xs : List Int) (i : Nat) (x : Int) : (ints xs).set i (.int .i64 x) = ints (xs.set i x) := by simp [ints, List.map_set]
theorem ownsRow_block {w : World} {base : Nat} {e : TypeId} {size n g : Nat} {v : Value} {xs : List Value} (h : w.ownsRow base e size v n xs) (hg : v.ownBlock = some g) : ∃ cur, w.heap[g]? = some (.cells cur e (0, 0)) ∧ base ≤ g ∧ g < w.heap.size := by
 rcases h.2 with ⟨rfl, _⟩ | ⟨g', cap, cur, rfl, hb, hh, _⟩
 ·simp [Value.ownBlock] at hg
 ·have : g' = g := by simpa [Value.ownBlock] using hg
  subst this
  refine ⟨cur, hh, hb, ?_⟩
  rcases Nat.lt_or_ge g' w.heap.size with hlt | hge
  ·exact hlt
  ·rw [Array.getElem?_eq_none hge] at hh; cases hh
theorem grown_below {B : Nat} {w w' : World} {row : Option Nat} (h : w.grownBy w' row) (hr : ∀ g, row = some g → B ≤ g) (hB : B ≤ w.heap.size) : Below B w w' := (Below.refl B w).grown h hB hr
def mixed (k : Nat) (xss : List (List Int)) (j : Nat) : List (List Int) := (mk k xss).take j ++ xss.drop j
theorem infoI : (Tryz.prog.info? 2).map (fun i => (i.zero, i.size, i.bytes)) = some (some (.int .i64 0), 1, 8) := by kernel_rfl
theorem own_lit (w : World) {B : Nat} (hB : B ≤ w.heap.size) (xs : List Int) (hm : xs.length ≤ maxLen) : (w.alloc (.cells (ints xs).toArray 2)).ownsRow B 2 1 (.slice (some ⟨w.heap.size, 0, none⟩) xs.length xs.length) xs.length (ints xs) := by
 have := World.ownsRow_lit (e := 2) (size := 1) (base := B) w (ints xs).toArray xs.length hB hm (by simp [ints_len])
 simpa using this
theorem news_one (w : World) (u : Value) (t : TypeId) {g : Nat} (hg : g = w.heap.size) : ∀ (j : Nat) (x : Value), [u][j]? = some x → (w.alloc (.cells #[u] t)).cell? ((⟨g, 0, none⟩ : Addr).add j) = some x := by
 subst hg
 intro j x hx
 match j with
 | 0 =>
  have : u = x := by simpa using hx
  subst this
  exact World.cell?_alloc_new w #[u] t 0
 | j + 1 => simp at hx
theorem one_int {k : IntKind} {n : Int} : ∀ u ∈ [Value.int k n], u.oneCell' = true := by
 intro u hu
 simp only [List.mem_singleton] at hu
 subst hu; rfl
def RdB (w : World) (B : Nat) (A : Option Addr) (zs : List Int) : Prop :=
 0 < zs.length → ∃ b off, A = some ⟨b, off, none⟩ ∧ b < B ∧ ∀ i, i < zs.length → w.cell? ⟨b, off + i, none⟩ = some (.int .u8 (zs.getD i 0))
theorem RdB.below {w w' : World} {B C : Nat} {A : Option Addr} {xs : List Int} (h : RdB w B A xs) (hb : Below C w w') (hBC : B ≤ C) : RdB w' B A xs := fun h0 => by
 obtain ⟨b, off, e, hlt, hc⟩ := h h0
 exact ⟨b, off, e, hlt, fun i hi => (hb.cell (p := ⟨b, off + i, none⟩) (by show b < C; omega)).trans (hc i hi)⟩
theorem RdB.more {w : World} {B C : Nat} {A : Option Addr} {xs : List Int} (h : RdB w B A xs) (hBC : B ≤ C) : RdB w C A xs := fun h0 => by
 obtain ⟨b, off, e, hlt, hc⟩ := h h0
 exact ⟨b, off, e, by omega, hc⟩
theorem RdB.drewN {w : World} {B : Nat} {A : Option Addr} {xs : List Int} (h : RdB w B A xs) (n : Nat) : RdB (w.drewN n) B A xs := h.below (below_drewN (Below.refl B w) n) (Nat.le_refl _)
end Go.Proofs.YtgipnbeipfhekaaGreatDoor.Mem
namespace Go.Proofs.YtgipnbeipfhekaaGreatDoor.Bld
open Go.RowKit Go.Proofs.YtgipnbeipfhekaaGreatDoor Go.Proofs.YtgipnbeipfhekaaGreatDoor.Base Go.Proofs.YtgipnbeipfhekaaGreatDoor.Mem
set_option linter.unusedVariables false
theorem sizeBuilder : (Tryz.prog.info? 93).map (·.size) = some 2 := by kernel_rfl
theorem liesBuilder : liesAt Tryz.prog Tryz.prog.depth 93 (2 / Tryz.prog.cellsOf 93) 0 93 1 = true := by kernel_rfl
theorem infoByte : (Tryz.prog.info? 5).map (fun i => (i.zero, i.size, i.bytes)) = some (some (.int .u8 0), 1, 1) := by kernel_rfl
theorem cellsByte : Tryz.prog.cellsOf 5 = 1 := by kernel_rfl
set_option maxHeartbeats 1000000 in
set_option maxRecDepth 100000 in
theorem copyCheck_used (b : Nat) (w : World) (h0 : w.cell? ⟨b, 0, none⟩ = some (.pointer (some ⟨b, 0, none⟩))) :
  Calls Tryz.prog 90 #[.pointer (some ⟨b, 0, none⟩)] w fun e w' => e = .returned (.tuple #[]) ∧ w' = w := by
 obtain ⟨j, hj, _⟩ := Option.map_eq_some_iff.1 sizeBuilder
 go_enter Tryz.func90, Tryz.ntmps90
 go_wp2
 rw [Lib.run_neq_ptr_same w _ Tryz.underlying91 hj]
 go_wp2
 go_end0
 exact ⟨rfl, rfl⟩
set_option maxHeartbeats 1000000 in
set_option maxRecDepth 100000 in
theorem copyCheck_fresh (b : Nat) (w : World) (h0 : w.cell? ⟨b, 0, none⟩ = some (.pointer none)) (hsh : w.shape? b = some (93, 2)) (hfz : w.frozen? ⟨b, 0, none⟩ = false) :
  Calls Tryz.prog 90 #[.pointer (some ⟨b, 0, none⟩)] w fun e w' => e = .returned (.tuple #[]) ∧ w' = w.setCell ⟨b, 0, none⟩ (.pointer (some ⟨b, 0, none⟩)) := by
 obtain ⟨j, hj, hjs⟩ := Option.map_eq_some_iff.1 sizeBuilder
 go_enter Tryz.func90, Tryz.ntmps90
 go_wp2
 rw [Lib.run_to_unsafe w ⟨b, 0, none⟩ Tryz.underlying91 Tryz.underlying190 hj (by rw [hjs]; decide) hsh (Nat.zero_lt_succ 1)]
 simp only [Result.andThen]
 rw [Oper.upon_value]
 go_wp2
 rw [run_callFunc_extern Tryz.func145 (by kernel_rfl) (by kernel_rfl) (by kernel_rfl) (e := Extern.AbiNoEscape.same) (by kernel_rfl)]
 rw [Lib.run_noEscape]
 simp only [Result.andThen]
 rw [Oper.upon_value]
 go_wp2
 rw [Lib.run_from_unsafe w ⟨b, 0, none⟩ Tryz.underlying190 Tryz.underlying91 hj hsh liesBuilder]
 simp only [Result.andThen]
 rw [Oper.upon_value]
 go_wp2
 go_end0
 exact ⟨rfl, rfl⟩
def IsB (B b : Nat) (bs : List Value) (w : World) : Prop := Lib.IsBuilder 93 5 B b bs w
theorem copyCheck_any (B b : Nat) (bs : List Value) (w : World) (h : IsB B b bs w) :
  Calls Tryz.prog 90 #[.pointer (some ⟨b, 0, none⟩)] w fun e w' => e = .returned (.tuple #[]) ∧ (Lib.BuilderAt 93 5 B b (.pointer (some ⟨b, 0, none⟩)) bs w' ∧ Below B w w') := by
 rcases h with h | h
 ·refine (copyCheck_fresh b w h.cell0 h.shape h.frozen0).mono ?_
  rintro e w' ⟨rfl, rfl⟩
  exact ⟨rfl, h.used _, (Below.refl B w).setCell (p := ⟨b, 0, none⟩) h.1 _⟩
 ·refine (copyCheck_used b w h.cell0).mono ?_
  rintro e w' ⟨rfl, rfl⟩
  exact ⟨rfl, h, Below.refl B _⟩
def WroteB (B b : Nat) (bs : List Value) (w : World) (e : Ending) (w' : World) : Prop := e = .returned .nilIface ∧ IsB B b bs w' ∧ Below B w w'
set_option maxHeartbeats 2000000 in
set_option maxRecDepth 100000 in
theorem writeByte_any (B b : Nat) (bs : List Value) (c : Int) (w : World) (h : IsB B b bs w) (hlen : bs.length + 1 ≤ 1099511627776) (hBw : B ≤ w.heap.size) :
  Calls Tryz.prog 119 #[.pointer (some ⟨b, 0, none⟩), .int .u8 c] w (WroteB B b (bs ++ [.int .u8 c]) w) := by
 obtain ⟨i0, hi, hz0, hz1, hz2⟩ := info_parts infoByte
 go_enter Tryz.func119, Tryz.ntmps119
 go_wp2_with fail
 refine (copyCheck_any B b bs _ h).mono ?_
 rintro e w1 ⟨rfl, h1, hb1⟩
 obtain ⟨hB, v, hbk, hown, hne⟩ := h1
 have c0 : w1.cell? ⟨b, 0, none⟩ = some (.pointer (some ⟨b, 0, none⟩)) := by rw [Lib.cell_of_heap hbk]; rfl
 have c1 : w1.cell? ⟨b, 1, none⟩ = some v := by rw [Lib.cell_of_heap hbk]; rfl
 go_wp2_with (at_builtin; refine wpList_append_own _ rfl _ _ 22 rfl B 5 i0 (.int .u8 0) 1 1 Tryz.underlying22 hi hz0 hz1 hz2 rfl (by decide) _ _ _ rfl (hown.alloc _) ⟨w1.heap.size, 0, none⟩ 1 1 [.int .u8 c] rfl rfl ?c1 ?c2 ?c3 ?c4 ?c5 ?_)
 case c1 =>
  intro j u hj
  match j, hj with
  | 0, hj => simp at hj; subst hj; simp [Addr.add]
 case c2 => intro u hu; simp at hu; subst hu; rfl
 case c3 => unfold maxLen; omega
 case c4 => omega
 case c5 => have := hb1.size; simp; omega
 intro v' w2 hown' hgrow _
 have hlt : b < w1.heap.size := by
  rcases Nat.lt_or_ge b w1.heap.size with h' | h'
  ·exact h'
  ·simp [Array.getElem?_eq_none h'] at hbk
 have hb2 : w2.heap[b]? = some (.cells #[.pointer (some ⟨b, 0, none⟩), v] 93 (0, 0)) := by
  rw [hgrow.block b (by simp; omega) (fun e => hne e.symm), Lib.alloc_old w1 _ b hlt]
  exact hbk
 have d0 : w2.cell? ⟨b, 0, none⟩ = some (.pointer (some ⟨b, 0, none⟩)) := by rw [Lib.cell_of_heap hb2]; rfl
 have d1 : w2.cell? ⟨b, 1, none⟩ = some v := by rw [Lib.cell_of_heap hb2]; rfl
 have f1 : w2.frozen? ⟨b, 1, none⟩ = false := Lib.frozen_of_heap hb2 1
 obtain ⟨g, cap, rfl⟩ : ∃ g cap, v' = .slice (some ⟨g, 0, none⟩) (bs.length + 1) cap := by
  rcases hown'.2 with ⟨_, h0⟩ | ⟨g, cap, cur, hv, _⟩
  ·omega
  ·exact ⟨g, cap, hv⟩
 go_wp2
 go_ret
 refine ⟨rfl, .inr ?_, ?_⟩
 ·exact Lib.BuilderAt.put (T := 93) (e := 5) hB hb2 (bs' := bs ++ [.int .u8 c]) (by simpa using hown') (by decide)
 ·exact ((hb1.alloc (by have := hb1.size; omega) _).grown hgrow (by have := hb1.size; simp; omega) (fun k hk => (hown.lt k hk).1)).setCell (p := ⟨b, 1, none⟩) hB _
set_option maxHeartbeats 1000000 in
set_option maxRecDepth 100000 in
theorem string_some (B b : Nat) (l : List UInt8) (w : World) (h : IsB B b (Lib.byteCells l) w) (h0 : l ≠ []) :
  Calls Tryz.prog 48 #[.pointer (some ⟨b, 0, none⟩)] w fun e w' => e = .returned (.string ⟨l.toArray⟩) ∧ Below B w w' := by
 obtain ⟨p, hB, v, hbk, hown, hne⟩ : ∃ p, Lib.BuilderAt 93 5 B b p (Lib.byteCells l) w := by
  rcases h with h | h
  ·exact ⟨_, h⟩
  ·exact ⟨_, h⟩
 have hl0 : l.length ≠ 0 := by simpa using h0
 rw [Lib.byteCells_length] at hown
 obtain ⟨g, cap, cur, rfl, hbg, hg, hnc, hcm, hcs, htake⟩ : ∃ g cap cur, v = .slice (some ⟨g, 0, none⟩) l.length cap ∧ B ≤ g ∧ w.heap[g]? = some (.cells cur 5 (0, 0)) ∧ l.length ≤ cap ∧ cap ≤ maxLen ∧ cur.size = cap * 1 ∧ cur.toList.take (l.length * 1) = Lib.byteCells l := by
  rcases hown.2 with ⟨_, hz⟩ | ⟨g, cap, cur, hv, r⟩
  ·exact absurd hz hl0
  ·exact ⟨g, cap, cur, hv, r⟩
 have c1 : w.drew.cell? ⟨b, 1, none⟩ = some (.slice (some ⟨g, 0, none⟩) l.length cap) := by
  have : w.drew.heap[b]? = some (.cells #[p, .slice (some ⟨g, 0, none⟩) l.length cap] 93 (0, 0)) := hbk
  rw [Lib.cell_of_heap this]; rfl
 have hSD : (Builtin.unsafeSliceData_ #[22] 141 #[.slice (some ⟨g, 0, none⟩) l.length cap]).run Tryz.prog w.drew = .ok (.pointer (some ⟨g, 0, none⟩)) w.drew :=
  Lib.run_unsafeSliceData_row _ _ _ _ _ _ (by omega)
 have hUS : (Builtin.unsafeString_ #[141, 3] 9 #[.pointer (some ⟨g, 0, none⟩), .int .i64 l.length]).run Tryz.prog w.drew = .ok (.string ⟨l.toArray⟩) (w.drew.freeze ⟨g, 0, none⟩ l.length) := by
  refine Lib.run_unsafeString_row w.drew 141 3 9 5 Tryz.underlying141 cellsByte g cur.size (by have hg' : w.drew.heap[g]? = some (.cells cur 5 (0, 0)) := hg; simp [World.shape?, hg']) l h0 (by omega) (by unfold maxLen at hcm; omega) ?_
  intro j x hx
  have := hown.cells (g := g) rfl j (.int .u8 x.toNat) (by simp [Lib.byteCells, hx])
  exact this
 have mixed : Tryz.prog.follows .mixedOrders = true := by kernel_rfl
 go_enter Tryz.func48, Tryz.ntmps48
 go_wp2
 go_region_o
 all_goals (go_wp2; go_ret; exact ⟨rfl, Lib.below_freeze (Below.drew (Below.refl B w)) (p := ⟨g, 0, none⟩) hbg _⟩)
end Go.Proofs.YtgipnbeipfhekaaGreatDoor.Bld
namespace Go.Proofs.YtgipnbeipfhekaaGreatDoor.PopM
set_option linter.unusedVariables false
def T (B : Nat) : Nat → Nat → Nat
 | 0, _ => 0
 | k + 1, x => x % B + T B k (x / B)
def Fld (B m : Nat) : Nat → Nat → Prop
 | 0, x => x = 0
 | k + 1, x => x % B ≤ m ∧ Fld B m k (x / B)
def mask (B e : Nat) : Nat → Nat
 | 0 => 0
 | k + 1 => e + B * mask B e k
theorem T_zero (B k : Nat) : T B k 0 = 0 := by
 induction k with
 | zero => rfl
 | succ k ih => simp [T, ih]
theorem and_split (j a e C : Nat) (he : e < 2 ^ j) : a &&& (e + 2 ^ j * C) = ((a % 2 ^ j) &&& e) + 2 ^ j * ((a / 2 ^ j) &&& C) := by
 have h := Nat.mod_add_div (a &&& (e + 2 ^ j * C)) (2 ^ j)
 rw [Nat.and_mod_two_pow, Nat.and_div_two_pow, Nat.add_mul_mod_self_left, Nat.mod_eq_of_lt he, Nat.add_mul_div_left _ _ (Nat.two_pow_pos j), Nat.div_eq_of_lt he, Nat.zero_add] at h
 exact h.symm
theorem claim1 : ∀ (k x : Nat), x < 4 ^ k → T 4 k ((x / 2 &&& mask 4 1 k) + (x &&& mask 4 1 k)) = T 2 (2 * k) x ∧ Fld 4 2 k ((x / 2 &&& mask 4 1 k) + (x &&& mask 4 1 k))
 | 0, x, h => by simp [mask, T, Fld]
 | k + 1, x, h => by
  have ih := claim1 k (x / 4) (by rw [Nat.pow_succ] at h; omega)
  have e1 := and_split 2 x 1 (mask 4 1 k) (by decide)
  have e2 := and_split 2 (x / 2) 1 (mask 4 1 k) (by decide)
  simp only [show (2 : Nat) ^ 2 = 4 from rfl, nat_mask1] at e1 e2
  have e3 : x / 2 / 4 = x / 4 / 2 := by omega
  rw [e3] at e2
  have hy : (x / 2 &&& mask 4 1 (k + 1)) + (x &&& mask 4 1 (k + 1)) = (x / 2 % 2 + x % 2) + 4 * ((x / 4 / 2 &&& mask 4 1 k) + (x / 4 &&& mask 4 1 k)) := by
   show (x / 2 &&& (1 + 4 * mask 4 1 k)) + (x &&& (1 + 4 * mask 4 1 k)) = _
   rw [e1, e2]; omega
  rw [hy]
  generalize (x / 4 / 2 &&& mask 4 1 k) + (x / 4 &&& mask 4 1 k) = y at *
  have hm : (x / 2 % 2 + x % 2 + 4 * y) % 4 = x / 2 % 2 + x % 2 := by omega
  have hd : (x / 2 % 2 + x % 2 + 4 * y) / 4 = y := by omega
  refine ⟨?_, ?_⟩
  ·show (x / 2 % 2 + x % 2 + 4 * y) % 4 + T 4 k ((x / 2 % 2 + x % 2 + 4 * y) / 4) = x % 2 + (x / 2 % 2 + T 2 (2 * k) (x / 2 / 2))
   rw [hm, hd, ih.1, show x / 2 / 2 = x / 4 by omega]; omega
  ·show (x / 2 % 2 + x % 2 + 4 * y) % 4 ≤ 2 ∧ Fld 4 2 k ((x / 2 % 2 + x % 2 + 4 * y) / 4)
   rw [hm, hd]; exact ⟨by omega, ih.2⟩
theorem claim2 : ∀ (k x : Nat), Fld 4 2 (2 * k) x → T 16 k ((x / 4 &&& mask 16 3 k) + (x &&& mask 16 3 k)) = T 4 (2 * k) x ∧ Fld 16 4 k ((x / 4 &&& mask 16 3 k) + (x &&& mask 16 3 k))
 | 0, x, h => by simp [mask, T, Fld]
 | k + 1, x, h => by
  obtain ⟨h1, h2, h3⟩ : x % 4 ≤ 2 ∧ x / 4 % 4 ≤ 2 ∧ Fld 4 2 (2 * k) (x / 4 / 4) := h
  rw [show x / 4 / 4 = x / 16 by omega] at h3
  have ih := claim2 k (x / 16) h3
  have e1 := and_split 4 x 3 (mask 16 3 k) (by decide)
  have e2 := and_split 4 (x / 4) 3 (mask 16 3 k) (by decide)
  simp only [show (2 : Nat) ^ 4 = 16 from rfl, nat_mask2] at e1 e2
  rw [show x / 4 / 16 = x / 16 / 4 by omega] at e2
  have hy : (x / 4 &&& mask 16 3 (k + 1)) + (x &&& mask 16 3 (k + 1)) = (x / 4 % 4 + x % 4) + 16 * ((x / 16 / 4 &&& mask 16 3 k) + (x / 16 &&& mask 16 3 k)) := by
   show (x / 4 &&& (3 + 16 * mask 16 3 k)) + (x &&& (3 + 16 * mask 16 3 k)) = _
   rw [e1, e2]; omega
  rw [hy]
  generalize (x / 16 / 4 &&& mask 16 3 k) + (x / 16 &&& mask 16 3 k) = y at *
  have hm : (x / 4 % 4 + x % 4 + 16 * y) % 16 = x / 4 % 4 + x % 4 := by omega
  have hd : (x / 4 % 4 + x % 4 + 16 * y) / 16 = y := by omega
  refine ⟨?_, ?_⟩
  ·show (x / 4 % 4 + x % 4 + 16 * y) % 16 + T 16 k ((x / 4 % 4 + x % 4 + 16 * y) / 16) = x % 4 + (x / 4 % 4 + T 4 (2 * k) (x / 4 / 4))
   rw [hm, hd, ih.1, show x / 4 / 4 = x / 16 by omega]; omega
  ·show (x / 4 % 4 + x % 4 + 16 * y) % 16 ≤ 4 ∧ Fld 16 4 k ((x / 4 % 4 + x % 4 + 16 * y) / 16)
   rw [hm, hd]; exact ⟨by omega, ih.2⟩
theorem c3a (x : Nat) (h1 : x % 16 ≤ 4) (h2 : x / 16 % 16 ≤ 4) (h4 : x / 256 % 16 ≤ 4) : (x / 16 + x) / 256 = x / 256 / 16 + x / 256 := by
 obtain ⟨a, ha⟩ : ∃ a, a = x % 16 := ⟨_, rfl⟩
 obtain ⟨b, hb⟩ : ∃ b, b = x / 16 % 16 := ⟨_, rfl⟩
 obtain ⟨e, he⟩ : ∃ e, e = x / 256 % 16 := ⟨_, rfl⟩
 obtain ⟨f, hf⟩ : ∃ f, f = x / 256 / 16 := ⟨_, rfl⟩
 have hx : x = a + 16 * b + 256 * (e + 16 * f) := by omega
 have q1 : x / 16 = b + 16 * (e + 16 * f) := by omega
 have q2 : x / 256 = e + 16 * f := by omega
 have q3 : (e + 16 * f) / 16 = f := by omega
 rw [q1, q2, q3, hx]
 omega
theorem claim3 : ∀ (k x : Nat), Fld 16 4 (2 * k) x → T 256 k ((x / 16 + x) &&& mask 256 15 k) = T 16 (2 * k) x ∧ Fld 256 8 k ((x / 16 + x) &&& mask 256 15 k)
 | 0, x, h => by simp [mask, T, Fld]
 | k + 1, x, h => by
  obtain ⟨h1, h2, h3⟩ : x % 16 ≤ 4 ∧ x / 16 % 16 ≤ 4 ∧ Fld 16 4 (2 * k) (x / 16 / 16) := h
  rw [show x / 16 / 16 = x / 256 by omega] at h3
  have h4 : x / 256 % 16 ≤ 4 := by
   cases k with
   | zero => have h0 : x / 256 = 0 := h3; omega
   | succ k => exact h3.1
  have ih := claim3 k (x / 256) h3
  have e1 := and_split 8 (x / 16 + x) 15 (mask 256 15 k) (by decide)
  simp only [show (2 : Nat) ^ 8 = 256 from rfl, nat_mask4] at e1
  have e2 : (x / 16 + x) / 256 = x / 256 / 16 + x / 256 := c3a x h1 h2 h4
  have e3 : (x / 16 + x) % 256 % 16 = x / 16 % 16 + x % 16 := by omega
  rw [e2, e3] at e1
  have hy : (x / 16 + x) &&& mask 256 15 (k + 1) = (x / 16 % 16 + x % 16) + 256 * ((x / 256 / 16 + x / 256) &&& mask 256 15 k) := e1
  rw [hy]
  generalize (x / 256 / 16 + x / 256) &&& mask 256 15 k = y at *
  have hm : (x / 16 % 16 + x % 16 + 256 * y) % 256 = x / 16 % 16 + x % 16 := by omega
  have hd : (x / 16 % 16 + x % 16 + 256 * y) / 256 = y := by omega
  refine ⟨?_, ?_⟩
  ·show (x / 16 % 16 + x % 16 + 256 * y) % 256 + T 256 k ((x / 16 % 16 + x % 16 + 256 * y) / 256) = x % 16 + (x / 16 % 16 + T 16 (2 * k) (x / 16 / 16))
   rw [hm, hd, ih.1, show x / 16 / 16 = x / 256 by omega]; omega
  ·show (x / 16 % 16 + x % 16 + 256 * y) % 256 ≤ 8 ∧ Fld 256 8 k ((x / 16 % 16 + x % 16 + 256 * y) / 256)
   rw [hm, hd]; exact ⟨by omega, ih.2⟩
theorem fold (A A2 A3 D : Nat) (h1 : A ≤ 4112) (h2 : A2 ≤ 4112) (h3 : A3 ≤ 4112) (hD : D ≤ 4112) (y4 : Nat) (h : y4 = A + 65536 * (A2 + 65536 * (A3 + 65536 * D))) :
  (y4 + y4 / 65536 + (y4 + y4 / 65536) / 4294967296) % 128 = (A + A2 + A3 + D) % 128 := by
 subst h
 have q1 : (A + 65536 * (A2 + 65536 * (A3 + 65536 * D))) / 65536 = A2 + 65536 * (A3 + 65536 * D) := by omega
 rw [q1]
 have q2 : (A + 65536 * (A2 + 65536 * (A3 + 65536 * D)) + (A2 + 65536 * (A3 + 65536 * D))) / 4294967296 = A3 + D + 65536 * D := by omega
 rw [q2]
 omega
theorem dig {k y : Nat} (h : Fld 256 8 (k + 1) y) : ∃ d y', d ≤ 8 ∧ y = d + 256 * y' ∧ Fld 256 8 k y' ∧ ∀ s, T 256 k y' = s → T 256 (k + 1) y = d + s :=
 ⟨y % 256, y / 256, h.1, by omega, h.2, fun s hs => by show y % 256 + T 256 k (y / 256) = _; rw [hs]⟩
theorem Fld.sum {y : Nat} (h : Fld 256 8 8 y) : y < 1157442765409226769 ∧ (y + y / 256 + (y + y / 256) / 65536 + (y + y / 256 + (y + y / 256) / 65536) / 4294967296) % 128 = T 256 8 y ∧ T 256 8 y ≤ 64 := by
 obtain ⟨d0, y1, b0, e0, h, t0⟩ := dig h
 obtain ⟨d1, y2, b1, e1, h, t1⟩ := dig h
 obtain ⟨d2, y3, b2, e2, h, t2⟩ := dig h
 obtain ⟨d3, y4, b3, e3, h, t3⟩ := dig h
 obtain ⟨d4, y5, b4, e4, h, t4⟩ := dig h
 obtain ⟨d5, y6, b5, e5, h, t5⟩ := dig h
 obtain ⟨d6, y7, b6, e6, h, t6⟩ := dig h
 obtain ⟨d7, y8, b7, e7, h, t7⟩ := dig h
 have h8 : y8 = 0 := h
 have ht := t0 _ (t1 _ (t2 _ (t3 _ (t4 _ (t5 _ (t6 _ (t7 0 rfl)))))))
 clear t0 t1 t2 t3 t4 t5 t6 t7 h
 have hq : y / 256 = y1 := by omega
 have hy4 : y + y / 256 = (d0 + d1 + 256 * (d1 + d2)) + 65536 * ((d2 + d3 + 256 * (d3 + d4)) + 65536 * ((d4 + d5 + 256 * (d5 + d6)) + 65536 * (d6 + d7 + 256 * d7))) := by rw [hq]; omega
 have hf := fold _ _ _ _ (by omega) (by omega) (by omega) (by omega) _ hy4
 rw [hf, ht]
 clear hf ht hy4 hq
 exact ⟨by omega, by omega, by omega⟩
def pop (n : Nat) : Nat := T 2 64 n
def par (n : Nat) : Nat := pop n % 2
def S1 (x : Nat) : Nat := (x / 2 &&& 6148914691236517205) + (x &&& 6148914691236517205)
def S2 (x : Nat) : Nat := (x / 4 &&& 3689348814741910323) + (x &&& 3689348814741910323)
def S3 (x : Nat) : Nat := (x / 16 + x) &&& 1085102592571150095
theorem pop_le {n : Nat} (hn : n < 18446744073709551616) : pop n ≤ 64 ∧ S1 n < 18446744073709551616 ∧ S2 (S1 n) < 7378697629483820647 ∧ S3 (S2 (S1 n)) < 1157442765409226769 ∧
  (S3 (S2 (S1 n)) + S3 (S2 (S1 n)) / 256 + (S3 (S2 (S1 n)) + S3 (S2 (S1 n)) / 256) / 65536 + (S3 (S2 (S1 n)) + S3 (S2 (S1 n)) / 256 + (S3 (S2 (S1 n)) + S3 (S2 (S1 n)) / 256) / 65536) / 4294967296) % 128 = pop n := by
 have m1 : mask 4 1 32 = 6148914691236517205 := by decide
 have m2 : mask 16 3 16 = 3689348814741910323 := by decide
 have m3 : mask 256 15 8 = 1085102592571150095 := by decide
 have c1 := claim1 32 n (by exact hn)
 rw [m1] at c1
 have c2 := claim2 16 (S1 n) c1.2
 rw [m2] at c2
 have c3 := claim3 8 (S2 (S1 n)) c2.2
 rw [m3] at c3
 have c4 := Fld.sum (y := S3 (S2 (S1 n))) c3.2
 have ht : T 256 8 (S3 (S2 (S1 n))) = pop n := c3.1.trans (c2.1.trans c1.1)
 rw [ht] at c4
 refine ⟨c4.2.2, ?_, ?_, c4.1, c4.2.1⟩
 ·unfold S1
  have a1 := Nat.and_le_right (n := n / 2) (m := 6148914691236517205)
  have a2 := Nat.and_le_right (n := n) (m := 6148914691236517205)
  omega
 ·unfold S2
  have a1 := Nat.and_le_right (n := S1 n / 4) (m := 3689348814741910323)
  have a2 := Nat.and_le_right (n := S1 n) (m := 3689348814741910323)
  omega
theorem xor_bit (a b : Nat) (ha : a < 2) (hb : b < 2) : a ^^^ b = (a + b) % 2 := by
 rcases (show a = 0 ∨ a = 1 by omega) with rfl | rfl <;> rcases (show b = 0 ∨ b = 1 by omega) with rfl | rfl <;> rfl
theorem T2_half (k x : Nat) (h : x < 2 ^ (k + 1)) : T 2 (k + 1) x = x % 2 + T 2 (k + 1) (x / 2) := by
  show x % 2 + T 2 k (x / 2) = _
  have : ∀ (k x : Nat), x < 2 ^ k → T 2 (k + 1) x = T 2 k x := by
    intro k
    induction k with
    | zero => intro x hx; have : x = 0 := by simpa using hx
              subst this; rfl
    | succ k ih =>
      intro x hx
      show x % 2 + T 2 (k + 1) (x / 2) = x % 2 + T 2 k (x / 2)
      rw [ih (x / 2) (by rw [Nat.pow_succ] at hx; omega)]
  rw [this k (x / 2) (by rw [Nat.pow_succ] at h; omega)]
theorem pop_half {x : Nat} (h : x < 18446744073709551616) : pop x = x % 2 + pop (x / 2) := T2_half 63 x h
theorem pop_zero : pop 0 = 0 := T_zero 2 64
theorem par_lt (n : Nat) : par n < 2 := Nat.mod_lt _ (by decide)
end Go.Proofs.YtgipnbeipfhekaaGreatDoor.PopM
namespace Go.Proofs.YtgipnbeipfhekaaGreatDoor.Bits
open Go.RowKit Go.Proofs.YtgipnbeipfhekaaGreatDoor Go.Proofs.YtgipnbeipfhekaaGreatDoor.Base
set_option linter.unusedVariables false
theorem ofInt_i64 (a : Nat) (ha : a < 9223372036854775808) : (BitVec.ofInt 64 (a : Int)).toNat = a := by
 rw [BitVec.ofInt_natCast, BitVec.toNat_ofNat]; exact Nat.mod_eq_of_lt (by omega)
theorem i64_and_nat (a b : Nat) (ha : a < 9223372036854775808) (hb : b < 9223372036854775808) : bits .and .i64 (a : Int) (b : Int) = ((a &&& b : Nat) : Int) := by
 have hx : a &&& b < 2 ^ 63 := Nat.and_lt_two_pow _ (by omega)
 show IntKind.i64.wrap ((BitVec.ofInt 64 (a : Int) &&& BitVec.ofInt 64 (b : Int)).toNat : Int) = _
 rw [BitVec.toNat_and, ofInt_i64 a ha, ofInt_i64 b hb, IntKind.wrap_i64]
 omega
theorem i64_or_nat (a b : Nat) (ha : a < 9223372036854775808) (hb : b < 9223372036854775808) : bits .or .i64 (a : Int) (b : Int) = ((a ||| b : Nat) : Int) := by
 have hx : a ||| b < 2 ^ 63 := Nat.or_lt_two_pow (by omega) (by omega)
 show IntKind.i64.wrap ((BitVec.ofInt 64 (a : Int) ||| BitVec.ofInt 64 (b : Int)).toNat : Int) = _
 rw [BitVec.toNat_or, ofInt_i64 a ha, ofInt_i64 b hb, IntKind.wrap_i64]
 omega
theorem i64_xor_nat (a b : Nat) (ha : a < 9223372036854775808) (hb : b < 9223372036854775808) : bits .xor .i64 (a : Int) (b : Int) = ((a ^^^ b : Nat) : Int) := by
 have hx : a ^^^ b < 2 ^ 63 := Nat.xor_lt_two_pow (by omega) (by omega)
 show IntKind.i64.wrap ((BitVec.ofInt 64 (a : Int) ^^^ BitVec.ofInt 64 (b : Int)).toNat : Int) = _
 rw [BitVec.toNat_xor, ofInt_i64 a ha, ofInt_i64 b hb, IntKind.wrap_i64]
 omega
theorem w1 (n : Nat) (hn : n < 18446744073709551616) (h : PopM.S1 n < 18446744073709551616) : IntKind.u64.wrap (bits .and .u64 ((n : Int) / 2) 6148914691236517205 + bits .and .u64 (n : Int) 6148914691236517205) = ((PopM.S1 n : Nat) : Int) := by
 have a := u64_and_nat (n / 2) 6148914691236517205 (by omega) (by omega)
 have b := u64_and_nat n 6148914691236517205 hn (by omega)
 rw [show ((n : Int) / 2) = ((n / 2 : Nat) : Int) by omega]
 rw [show (6148914691236517205 : Int) = ((6148914691236517205 : Nat) : Int) from rfl, a, b, IntKind.wrap_u64]
 unfold PopM.S1 at *
 omega
theorem w2 (n : Nat) (hn : n < 18446744073709551616) (h : PopM.S2 n < 7378697629483820647) : IntKind.u64.wrap (bits .and .u64 ((n : Int) / 4) 3689348814741910323 + bits .and .u64 (n : Int) 3689348814741910323) = ((PopM.S2 n : Nat) : Int) := by
 have a := u64_and_nat (n / 4) 3689348814741910323 (by omega) (by omega)
 have b := u64_and_nat n 3689348814741910323 hn (by omega)
 rw [show ((n : Int) / 4) = ((n / 4 : Nat) : Int) by omega]
 rw [show (3689348814741910323 : Int) = ((3689348814741910323 : Nat) : Int) from rfl, a, b, IntKind.wrap_u64]
 unfold PopM.S2 at *
 omega
theorem w3 (n : Nat) (hn : n < 7378697629483820647) : bits .and .u64 (IntKind.u64.wrap ((n : Int) / 16 + (n : Int))) 1085102592571150095 = ((PopM.S3 n : Nat) : Int) := by
 have a := u64_and_nat (n / 16 + n) 1085102592571150095 (by omega) (by omega)
 have e : IntKind.u64.wrap ((n : Int) / 16 + (n : Int)) = ((n / 16 + n : Nat) : Int) := by rw [IntKind.wrap_u64]; omega
 rw [e, show (1085102592571150095 : Int) = ((1085102592571150095 : Nat) : Int) from rfl, a]
 rfl
theorem w4 (n : Nat) (hn : n < 1157442765409226769) : bits .and .i64 (wrap64 (IntKind.u64.wrap (IntKind.u64.wrap (IntKind.u64.wrap ((n : Int) + (n : Int) / 256) + IntKind.u64.wrap ((n : Int) + (n : Int) / 256) / 65536) + IntKind.u64.wrap (IntKind.u64.wrap ((n : Int) + (n : Int) / 256) + IntKind.u64.wrap ((n : Int) + (n : Int) / 256) / 65536) / 4294967296))) 127 =
  (((n + n / 256 + (n + n / 256) / 65536 + (n + n / 256 + (n + n / 256) / 65536) / 4294967296) % 128 : Nat) : Int) := by
 have e1 : IntKind.u64.wrap ((n : Int) + (n : Int) / 256) = ((n + n / 256 : Nat) : Int) := by rw [IntKind.wrap_u64]; omega
 rw [e1]
 have hx : n + n / 256 < 1161964026368821562 := by omega
 generalize n + n / 256 = x at *
 have e2 : IntKind.u64.wrap ((x : Int) + (x : Int) / 65536) = ((x + x / 65536 : Nat) : Int) := by rw [IntKind.wrap_u64]; omega
 rw [e2]
 have hy : x + x / 65536 < 1161981756664180000 := by omega
 generalize x + x / 65536 = y at *
 have e3 : IntKind.u64.wrap ((y : Int) + (y : Int) / 4294967296) = ((y + y / 4294967296 : Nat) : Int) := by rw [IntKind.wrap_u64]; omega
 have hz : y + y / 4294967296 < 1161981757000000000 := by omega
 rw [e3]
 generalize y + y / 4294967296 = z at *
 have e4 : wrap64 (z : Int) = (z : Int) := by simp only [wrap64]; omega
 rw [e4, show (127 : Int) = ((127 : Nat) : Int) from rfl, i64_and_nat z 127 (by omega) (by omega), nat_mask7]
theorem ones_any (n : Nat) (hn : n < 18446744073709551616) (w : World) :
  Calls Tryz.prog 213 #[.int .u64 n] w fun e w' => e = .returned (.int .i64 (PopM.pop n : Nat)) ∧ w = w' := by
 obtain ⟨p0, p1, p2, p3, p4⟩ := PopM.pop_le hn
 have H1 := Lib.hid (w1 n hn p1)
 have H2 := Lib.hid (w2 (PopM.S1 n) p1 p2)
 have H3 := Lib.hid (w3 (PopM.S2 (PopM.S1 n)) p2)
 have H4 := Lib.hid (w4 (PopM.S3 (PopM.S2 (PopM.S1 n))) p3)
 have H5 := Lib.hid p4
 clear p0 p1 p2 p3 p4
 go_enter Tryz.func213, Tryz.ntmps213
 go_wp2
 go_ret
 refine ⟨ret_int ?_, rfl⟩
 rw [H1.out, H2.out, H3.out, H4.out, H5.out]
theorem and1 (x : Nat) (h : x < 9223372036854775808) : bits .and .i64 (x : Int) 1 = ((x % 2 : Nat) : Int) := by
 have := i64_and_nat x 1 h (by omega)
 rw [nat_mask1] at this
 exact this
theorem parity_any (n : Nat) (hn : n < 9223372036854775808) (w : World) :
  Calls Tryz.prog 172 #[.int .i64 n] w fun e w' => e = .returned (.int .i64 (PopM.par n : Nat)) ∧ w = w' := by
 have hp := (PopM.pop_le (n := n) (by omega)).1
 have H := Lib.hid (and1 (PopM.pop n) (by omega))
 go_enter Tryz.func172, Tryz.ntmps172
 go_wp2_with fail
 refine (ones_any n (by omega) _).mono ?_; rintro e w' ⟨rfl, rfl⟩
 go_wp2
 go_ret
 exact ⟨ret_int H.out, rfl⟩
theorem parity_q (n : Nat) (hn : n < 9223372036854775808) (w : World) :
  Calls Tryz.prog 172 #[.int .i64 n] w fun e w' => e = .returned (.int .i64 (PopM.par n : Nat)) ∧ w' = w :=
 (parity_any n hn w).mono fun _ _ h => ⟨h.1, h.2.symm⟩
set_option maxHeartbeats 400000 in
theorem l02Parity_any (n : Nat) (hn : n < 9223372036854775808) (w : World) :
  Calls Tryz.prog 174 #[.int .i64 n] w fun e w' => e = .returned (.int .i64 (PopM.par n : Nat)) ∧ w = w' := by
 go_enter Tryz.func174, Tryz.ntmps174
 go_wp2
 go_loop [0, 3] (fun x p => ∃ m q : Nat, m < 9223372036854775808 ∧ q < 2 ∧ (q + PopM.pop m) % 2 = PopM.par n ∧ x = .int .i64 m ∧ p = .int .i64 q) (fun x _ => (intOf x).toNat)
 case atStart => exact ⟨n, 0, hn, by omega, by simp [PopM.par], rfl, rfl⟩
 case round =>
  obtain ⟨m, q, hm, hq, he, rfl, rfl⟩ := hrel
  have HE := Lib.hid he; clear he
  by_cases h0 : 0 < m
  ·have h1 := Lib.hid (and1 m hm)
   have h2 := Lib.hid (i64_xor_nat q (m % 2) (by omega) (by omega))
   have h3 := Lib.hid (PopM.xor_bit q (m % 2) hq (by omega))
   have h4 := Lib.hid (PopM.pop_half (x := m) (by omega))
   go_wp2
   go_round
   case rel => exact ⟨m / 2, (q + m % 2) % 2, by omega, by omega, by have := HE.out; rw [h4.out] at this; omega, by go_num, by rw [h1.out, h2.out, h3.out]⟩
   case measure => simp [intOf]; omega
  ·obtain rfl : m = 0 := by omega
   have H : Hid (PopM.par n = q) := by
    have := HE.out
    rw [PopM.pop_zero] at this
    show _ = _
    omega
   go_wp2
   go_ret
   exact ⟨ret_int (by rw [H.out]), rfl⟩
theorem l02Parity_q (n : Nat) (hn : n < 9223372036854775808) (w : World) :
  Calls Tryz.prog 174 #[.int .i64 n] w fun e w' => e = .returned (.int .i64 (PopM.par n : Nat)) ∧ w' = w :=
 (l02Parity_any n hn w).mono fun _ _ h => ⟨h.1, h.2.symm⟩
end Go.Proofs.YtgipnbeipfhekaaGreatDoor.Bits
set_option linter.unusedVariables false
namespace Go.Proofs.YtgipnbeipfhekaaGreatDoor.CycM
theorem pigeon : ∀ (M n : Nat) (g : Nat → Nat), (∀ i, i < n → g i < M) → (∀ a b, a < b → b < n → g a ≠ g b) → n ≤ M
 | 0, n, g, h, _ => by
  rcases Nat.eq_zero_or_pos n with h0 | h0
  ·omega
  ·have := h 0 h0; omega
 | M + 1, n, g, h, hd => by
  by_cases hex : ∃ i, i < n ∧ g i = M
  ·obtain ⟨i0, hi0, he⟩ := hex
   have ih := pigeon M (n - 1) (fun i => g (if i < i0 then i else i + 1)) (fun i hi => by
    show g (if i < i0 then i else i + 1) < M
    by_cases hlt : i < i0
    ·rw [if_pos hlt]
     have h1 := h i (by omega)
     have h2 := hd i i0 hlt hi0
     omega
    ·rw [if_neg hlt]
     have h1 := h (i + 1) (by omega)
     have h2 := hd i0 (i + 1) (by omega) (by omega)
     omega) (fun a b hab hb => by
    show g (if a < i0 then a else a + 1) ≠ g (if b < i0 then b else b + 1)
    by_cases ha : a < i0 <;> by_cases hb' : b < i0
    ·rw [if_pos ha, if_pos hb']; exact hd a b hab (by omega)
    ·rw [if_pos ha, if_neg hb']; exact hd a (b + 1) (by omega) (by omega)
    ·omega
    ·rw [if_neg ha, if_neg hb']; exact hd (a + 1) (b + 1) (by omega) (by omega))
   omega
  ·have ih := pigeon M n g (fun i hi => by
    have h1 := h i hi
    have h2 : g i ≠ M := fun e => hex ⟨i, hi, e⟩
    omega) hd
   omega
def iter (T : Nat → Nat) (x : Nat) : Nat → Nat
 | 0 => x
 | k + 1 => T (iter T x k)
theorem iter_succ (T : Nat → Nat) (x k : Nat) : iter T x (k + 1) = T (iter T x k) := rfl
theorem iter_lt {T : Nat → Nat} {M x : Nat} (hT : ∀ s, s < M → T s < M) (hx : x < M) (k : Nat) : iter T x k < M := by
 induction k with
 | zero => exact hx
 | succ k ih => exact hT _ ih
theorem iter_add (T : Nat → Nat) (x j k : Nat) : iter T x (j + k) = iter T (iter T x j) k := by
 induction k with
 | zero => rfl
 | succ k ih => rw [← Nat.add_assoc, iter_succ, iter_succ, ih]
theorem iter_congr {T U : Nat → Nat} {M x : Nat} (hT : ∀ s, s < M → T s < M) (hx : x < M) (h : ∀ s, s < M → T s = U s) (k : Nat) : iter T x k = iter U x k := by
 induction k with
 | zero => rfl
 | succ k ih => rw [iter_succ, iter_succ, ← ih, h _ (iter_lt hT hx k)]
def IsCyc (T : Nat → Nat) (x j n : Nat) : Prop :=
 j < n ∧ iter T x j = iter T x n ∧ ∀ a b, a < b → b < n → iter T x a ≠ iter T x b
theorem IsCyc.uniq {T : Nat → Nat} {x j n j' n' : Nat} (h : IsCyc T x j n) (h' : IsCyc T x j' n') : j = j' ∧ n = n' := by
 obtain ⟨h1, h2, h3⟩ := h
 obtain ⟨g1, g2, g3⟩ := h'
 have e : n = n' := by
  rcases Nat.lt_trichotomy n n' with hlt | he | hgt
  ·exact absurd h2 (g3 j n h1 hlt)
  ·exact he
  ·exact absurd g2 (h3 j' n' g1 hgt)
 subst e
 rcases Nat.lt_trichotomy j j' with hlt | he | hgt
 ·exact absurd (h2.trans g2.symm) (h3 j j' hlt g1)
 ·exact ⟨he, rfl⟩
 ·exact absurd (g2.trans h2.symm) (h3 j' j hgt h1)
theorem IsCyc.le {T : Nat → Nat} {M x j n : Nat} (hT : ∀ s, s < M → T s < M) (hx : x < M) (h : IsCyc T x j n) : n ≤ M :=
 pigeon M n (iter T x) (fun i _ => iter_lt hT hx i) h.2.2
theorem IsCyc.congr {T U : Nat → Nat} {M x j n : Nat} (hT : ∀ s, s < M → T s < M) (hx : x < M) (hTU : ∀ s, s < M → T s = U s) (h : IsCyc T x j n) : IsCyc U x j n := by
 obtain ⟨h1, h2, h3⟩ := h
 refine ⟨h1, ?_, fun a b hab hb => ?_⟩
 ·rw [← iter_congr hT hx hTU, ← iter_congr hT hx hTU]; exact h2
 ·rw [← iter_congr hT hx hTU, ← iter_congr hT hx hTU]; exact h3 a b hab hb
noncomputable def cyc (T : Nat → Nat) (x : Nat) : Nat × Nat := Classical.epsilon fun p : Nat × Nat => IsCyc T x p.1 p.2
theorem cyc_of {T : Nat → Nat} {x j n : Nat} (h : IsCyc T x j n) : cyc T x = (j, n) := by
 have hs : IsCyc T x (cyc T x).1 (cyc T x).2 := Classical.epsilon_spec (p := fun p : Nat × Nat => IsCyc T x p.1 p.2) ⟨(j, n), h⟩
 obtain ⟨h1, h2⟩ := hs.uniq h
 exact Prod.ext h1 h2
noncomputable def preOf (T : Nat → Nat) (x : Nat) : Int := ((cyc T x).1 : Int)
noncomputable def perOf (T : Nat → Nat) (x : Nat) : Int := ((cyc T x).2 : Int) - ((cyc T x).1 : Int)
theorem preOf_of {T : Nat → Nat} {x j n : Nat} (h : IsCyc T x j n) : preOf T x = j := by unfold preOf; rw [cyc_of h]
theorem perOf_of {T : Nat → Nat} {x j n : Nat} (h : IsCyc T x j n) : perOf T x = (n : Int) - j := by unfold perOf; rw [cyc_of h]
structure Seen (T : Nat → Nat) (x M n : Nat) (f : Nat → Nat) : Prop where
 zero : ∀ s, s < M → f s = 0 → ∀ i, i < n → iter T x i ≠ s
 pos : ∀ s, s < M → f s ≠ 0 → f s ≤ n ∧ iter T x (f s - 1) = s
 dist : ∀ a b, a < b → b < n → iter T x a ≠ iter T x b
theorem Seen.start (T : Nat → Nat) (x M : Nat) : Seen T x M 0 (fun _ => 0) :=
 ⟨fun _ _ _ i hi => absurd hi (Nat.not_lt_zero i), fun _ _ h => absurd rfl h, fun a b _ hb => absurd hb (Nat.not_lt_zero b)⟩
theorem Seen.step {T : Nat → Nat} {x M n : Nat} {f : Nat → Nat} (hT : ∀ s, s < M → T s < M) (hx : x < M) (h : Seen T x M n f) (h0 : f (iter T x n) = 0) :
  Seen T x M (n + 1) (fun s => if s = iter T x n then n + 1 else f s) := by
 have hn := h.zero _ (iter_lt hT hx n) h0
 refine ⟨fun s hs hf i hi => ?_, fun s hs hf => ?_, fun a b hab hb => ?_⟩
 ·by_cases e : s = iter T x n
  ·simp [e] at hf
  ·simp only [if_neg e] at hf
   rcases Nat.lt_or_ge i n with h1 | h1
   ·exact h.zero s hs hf i h1
   ·obtain rfl : i = n := by omega
    exact fun h2 => e h2.symm
 ·by_cases e : s = iter T x n
  ·simp only [if_pos e]
   exact ⟨Nat.le_refl _, by simpa using e.symm⟩
  ·simp only [if_neg e] at hf ⊢
   have := h.pos s hs hf
   exact ⟨by omega, this.2⟩
 ·rcases Nat.lt_or_ge b n with h1 | h1
  ·exact h.dist a b hab h1
  ·obtain rfl : b = n := by omega
   exact hn a hab
theorem Seen.le {T : Nat → Nat} {x M n : Nat} {f : Nat → Nat} (hT : ∀ s, s < M → T s < M) (hx : x < M) (h : Seen T x M n f) : n ≤ M :=
 pigeon M n (iter T x) (fun i _ => iter_lt hT hx i) h.dist
theorem Seen.done {T : Nat → Nat} {x M n : Nat} {f : Nat → Nat} (hT : ∀ s, s < M → T s < M) (hx : x < M) (h : Seen T x M n f) (h0 : f (iter T x n) ≠ 0) :
  IsCyc T x (f (iter T x n) - 1) n := by
 have := h.pos _ (iter_lt hT hx n) h0
 exact ⟨by omega, this.2, h.dist⟩
end Go.Proofs.YtgipnbeipfhekaaGreatDoor.CycM
namespace Go.Proofs.YtgipnbeipfhekaaGreatDoor.Cong
open Go.RowKit Go.Proofs.YtgipnbeipfhekaaGreatDoor Go.Proofs.YtgipnbeipfhekaaGreatDoor.Base
set_option linter.unusedVariables false
def congB (m f a : Int) : Bool := inR m 2 100000 && (inR f 0 (m - 1) && inR a 0 (m - 1))
theorem congB_true {m f a : Int} (h : congB m f a = true) : 2 ≤ m ∧ m ≤ 100000 ∧ 0 ≤ f ∧ f < m ∧ 0 ≤ a ∧ a < m := by
 simp only [congB, Bool.and_eq_true] at h
 have h1 := inR_true h.1
 have h2 := inR_true h.2.1
 have h3 := inR_true h.2.2
 omega
set_option maxHeartbeats 400000 in
theorem l03Is_any (b o : Nat) (m f a : Int) (w : World) (h0 : w.cell? ⟨b, o, none⟩ = some (.int .i64 m)) (h1 : w.cell? ⟨b, o + 1, none⟩ = some (.int .i64 f)) (h2 : w.cell? ⟨b, o + 2, none⟩ = some (.int .i64 a)) :
  Calls Tryz.prog 125 #[.pointer (some ⟨b, o, none⟩)] w fun e w' => e = .returned (.bool (congB m f a)) ∧ ∃ n, w' = w.drewN n := by
 cases hm : inR m 2 100000
 ·go_enter Tryz.func125, Tryz.ntmps125
  go_wp2
  go_quiet ((go_at_call 38; exact Calls.quiet_of_same (l00In_qb hm _)))
  go_wp2
  go_ret
  exact ⟨ret_bool (by simp [congB, hm]), _, rfl⟩
 ·obtain ⟨b1, b2⟩ := inR_true hm
  cases hf : inR f 0 (m - 1)
  ·go_enter Tryz.func125, Tryz.ntmps125
   go_wp2
   go_quiet ((go_at_call 38; (first | (with_reducible exact Calls.quiet_of_same (l00In_qb hm _)) | (with_reducible exact Calls.quiet_of_same (l00In_qb hf _)))))
   go_wp2
   go_ret
   exact ⟨ret_bool (by simp [congB, hm, hf]), _, rfl⟩
  ·cases ha : inR a 0 (m - 1)
   all_goals
    go_enter Tryz.func125, Tryz.ntmps125
    go_wp2
    go_quiet ((go_at_call 38; (first | (with_reducible exact Calls.quiet_of_same (l00In_qb hm _)) | (with_reducible exact Calls.quiet_of_same (l00In_qb hf _)) | (with_reducible exact Calls.quiet_of_same (l00In_qb ha _)))))
    go_wp2
    go_ret
    exact ⟨ret_bool (by simp [congB, hm, hf, ha]), _, rfl⟩
def stepN (m f a x : Nat) : Nat := (f * x + a) % m
theorem stepN_lt {m f a : Nat} (hm : 0 < m) (x : Nat) : stepN m f a x < m := Nat.mod_lt _ hm
theorem stepN_int (m f a x : Nat) : ((f : Int) * (x : Int) + (a : Int)) % (m : Int) = ((stepN m f a x : Nat) : Int) := by
 unfold stepN; simp
theorem prod_le {f x m : Nat} (h1 : f < m) (h2 : x < m) (h3 : m ≤ 100000) : (f : Int) * (x : Int) ≤ 10000000000 ∧ 0 ≤ (f : Int) * (x : Int) := by
 have h : f * x ≤ 100000 * 100000 := Nat.mul_le_mul (by omega) (by omega)
 have e : ((f * x : Nat) : Int) = (f : Int) * (x : Int) := by simp
 rw [← e]; omega
theorem l03Step_any (b o m f a x : Nat) (w : World) (h0 : w.cell? ⟨b, o, none⟩ = some (.int .i64 m)) (h1 : w.cell? ⟨b, o + 1, none⟩ = some (.int .i64 f)) (h2 : w.cell? ⟨b, o + 2, none⟩ = some (.int .i64 a))
  (hm : 2 ≤ m) (hm2 : m ≤ 100000) (hf : f < m) (ha : a < m) (hx : x < m) :
  Calls Tryz.prog 131 #[.pointer (some ⟨b, o, none⟩), .int .i64 x] w fun e w' => e = .returned (.int .i64 (stepN m f a x : Nat)) ∧ ∃ n, w' = w.drewN n := by
 obtain ⟨p1, p2⟩ := prod_le hf hx hm2
 have H := Lib.hid (stepN_int m f a x)
 have hm0 : ((m : Int) == 0) = false := by simp; omega
 go_enter Tryz.func131, Tryz.ntmps131
 go_wp2
 go_quiet (fail)
 go_wp2
 go_ret
 exact ⟨ret_int H.out, _, rfl⟩
theorem info64 : (Tryz.prog.info? 2).map (fun i => (i.zero, i.size, i.bytes)) = some (some (.int .i64 0), 1, 8) := by kernel_rfl
def CycRet (T : Nat → Nat) (x : Nat) (w : World) (e : Ending) (w' : World) : Prop :=
 ∃ j n : Nat, CycM.IsCyc T x j n ∧ e = .returned (.tuple #[.int .i64 j, .int .i64 ((n : Int) - j)]) ∧ Below w.heap.size w w'
def CycRel (T : Nat → Nat) (x m : Nat) (t : TypeId) (w : World) (xv nv : Value) (wr : World) : Prop :=
 ∃ (n : Nat) (F : Nat → Nat), n ≤ m ∧ CycM.Seen T x m n F ∧ wr.rowIs w.heap.size t m (fun s => .int .i64 (F s : Nat)) ∧ Below w.heap.size w wr ∧ xv = .int .i64 (CycM.iter T x n : Nat) ∧ nv = .int .i64 ((n : Int) + 1)
theorem CycRel.start (T : Nat → Nat) (x m : Nat) (t : TypeId) (w : World) : CycRel T x m t w (.int .i64 (x : Int)) (.int .i64 1) (w.alloc (.cells (madeCells #[.int .i64 0] m) t)) :=
 ⟨0, fun _ => 0, Nat.zero_le _, CycM.Seen.start T x m, World.rowIs_made w _ m t, (Below.refl _ _).alloc (Nat.le_refl _) _, rfl, rfl⟩
theorem CycRel.next {T : Nat → Nat} {x m n : Nat} {t : TypeId} {w wr : World} {F : Nat → Nat} (hT : ∀ s, s < m → T s < m) (hx : x < m) (hS : CycM.Seen T x m n F)
  (hrow : wr.rowIs w.heap.size t m (fun s => .int .i64 (F s : Nat))) (hb : Below w.heap.size w wr) (h0 : F (CycM.iter T x n) = 0) (k : Nat) :
  CycRel T x m t w (.int .i64 (T (CycM.iter T x n) : Nat)) (.int .i64 ((n : Int) + 1 + 1)) ((wr.setCell ⟨w.heap.size, CycM.iter T x n, none⟩ (.int .i64 ((n : Int) + 1))).drewN k) := by
 refine ⟨n + 1, _, ?_, hS.step hT hx h0, ?_, ?_, rfl, by simp⟩
 ·exact (hS.step hT hx h0).le hT hx
 ·obtain ⟨c, hc1, hc2, hc3⟩ := hrow.set (CycM.iter T x n) (.int .i64 ((n : Int) + 1))
  refine ⟨c, hc1, hc2, fun i hi => ?_⟩
  rw [hc3 i hi]
  by_cases e : i = CycM.iter T x n
  ·simp [e]
  ·simp [e]
 ·exact below_drewN (hb.setCell (Nat.le_refl _) _) k
theorem CycRel.next2 {T : Nat → Nat} {x m n : Nat} {t : TypeId} {w wr : World} {F : Nat → Nat} (hT : ∀ s, s < m → T s < m) (hx : x < m) (hS : CycM.Seen T x m n F)
  (hrow : wr.rowIs w.heap.size t m (fun s => .int .i64 (F s : Nat))) (hb : Below w.heap.size w wr) (h0 : F (CycM.iter T x n) = 0) (w1 : World)
  (hb1 : Below wr.heap.size (wr.setCell ⟨w.heap.size, CycM.iter T x n, none⟩ (.int .i64 ((n : Int) + 1))) w1) :
  CycRel T x m t w (.int .i64 (T (CycM.iter T x n) : Nat)) (.int .i64 ((n : Int) + 1 + 1)) w1 := by
 obtain ⟨k, G, g1, g2, g3, g4, g5, g6⟩ := CycRel.next (t := t) hT hx hS hrow hb h0 0
 have hlt : w.heap.size < wr.heap.size := hrow.lt
 exact ⟨k, G, g1, g2, g3.of_block (hb1.block _ hlt), g4.trans (hb1.mono (Nat.le_of_lt hlt)), g5, g6⟩
theorem CycRet.mk {T : Nat → Nat} {x n k : Nat} {w w' : World} {u v : Int} (h : CycM.IsCyc T x (k - 1) n) (hk : 1 ≤ k) (hv : v = (n : Int) + 1 - k) (hu : u = (k : Int) - 1) (hb : Below w.heap.size w w') :
  CycRet T x w (.returned (.tuple #[.int .i64 u, .int .i64 v])) w' :=
 ⟨k - 1, n, h, by rw [hv, hu, show ((k : Int) - 1) = ((k - 1 : Nat) : Int) by omega, show ((n : Int) + 1 - k) = (n : Int) - ((k - 1 : Nat) : Int) by omega], hb⟩
theorem setOther {w : World} {B s b o : Nat} {v : Value} (hb : b < B) (h : w.cell? ⟨b, o, none⟩ = some v) (u : Value) : (w.setCell ⟨B, s, none⟩ u).cell? ⟨b, o, none⟩ = some v := by
 rw [World.cell?_setCell_other _ _ _ _ (fun e => by have := congrArg Addr.block e; simp at this; omega)]
 exact h
end Go.Proofs.YtgipnbeipfhekaaGreatDoor.Cong
namespace Go.Proofs.YtgipnbeipfhekaaGreatDoor.Reg
open Go.RowKit Go.Proofs.YtgipnbeipfhekaaGreatDoor Go.Proofs.YtgipnbeipfhekaaGreatDoor.Base Go.Proofs.YtgipnbeipfhekaaGreatDoor.Bits
set_option linter.unusedVariables false
theorem pw_bd {W : Nat} (h : W ≤ 16) : 1 ≤ (2 : Int) ^ W ∧ (2 : Int) ^ W ≤ 65536 := by
 have h1 : 2 ^ W ≤ 2 ^ 16 := Nat.pow_le_pow_right (by decide) h
 have h2 : 0 < 2 ^ W := Nat.two_pow_pos W
 have e : ((2 ^ W : Nat) : Int) = (2 : Int) ^ W := by simp
 rw [← e]; omega
def stB (W : Nat) (x : Int) : Bool := inR x 0 ((2 : Int) ^ W - 1)
def regB (W T : Int) : Bool := inR W 0 16 && stB W.toNat T
theorem regB_true {W T : Int} (h : regB W T = true) : 0 ≤ W ∧ W ≤ 16 ∧ 0 ≤ T ∧ T < (2 : Int) ^ W.toNat := by
 simp only [regB, Bool.and_eq_true, stB] at h
 have h1 := inR_true h.1
 have h2 := inR_true h.2
 omega
theorem l02State_any (W : Nat) (x : Int) (hn : W ≤ 16) (w : World) :
  Calls Tryz.prog 124 #[.int .i64 W, .int .i64 x] w fun e w' => e = .returned (.bool (stB W x)) ∧ w = w' := by
 obtain ⟨p1, p2⟩ := pw_bd hn
 go_enter Tryz.func124, Tryz.ntmps124
 go_wp2_with (go_at_call 38; refine (l00In_any _ _ _ _).mono ?_; rintro e w' ⟨rfl, rfl⟩)
 go_ret
 exact ⟨rfl, rfl⟩
theorem l02State_qb {W : Nat} {x : Int} {r : Bool} (h : stB W x = r) (hn : W ≤ 16) (w : World) :
  Calls Tryz.prog 124 #[.int .i64 W, .int .i64 x] w fun e w' => e = .returned (.bool r) ∧ w' = w := by
 subst h; exact (l02State_any W x hn w).mono fun _ _ h => ⟨h.1, h.2.symm⟩
theorem l02Is_any (b o : Nat) (W T : Int) (w : World) (h0 : w.cell? ⟨b, o, none⟩ = some (.int .i64 W)) (h1 : w.cell? ⟨b, o + 1, none⟩ = some (.int .i64 T)) :
  Calls Tryz.prog 123 #[.pointer (some ⟨b, o, none⟩)] w fun e w' => e = .returned (.bool (regB W T)) ∧ ∃ n, w' = w.drewN n := by
 cases hm : inR W 0 16
 ·go_enter Tryz.func123, Tryz.ntmps123
  go_wp2
  go_quiet ((go_at_call 38; exact Calls.quiet_of_same (l00In_qb hm _)))
  go_wp2
  go_ret
  exact ⟨ret_bool (by simp [regB, hm]), _, rfl⟩
 ·obtain ⟨b1, b2⟩ := inR_true hm
  obtain ⟨V, rfl⟩ := Int.eq_ofNat_of_zero_le b1
  cases hf : stB V T
  all_goals
   go_enter Tryz.func123, Tryz.ntmps123
   go_wp2
   go_quiet ((first | (go_at_call 38; exact Calls.quiet_of_same (l00In_qb hm _)) | (go_at_call 124; exact Calls.quiet_of_same (l02State_qb hf (by omega) _))))
   go_wp2
   go_ret
   exact ⟨ret_bool (by simp [regB, hm, hf]), _, rfl⟩
def bothR (W T x : Int) : Bool := regB W T && stB W.toNat x
theorem bothR_true {W T x : Int} (h : bothR W T x = true) : 0 ≤ W ∧ W ≤ 16 ∧ 0 ≤ T ∧ T < (2 : Int) ^ W.toNat ∧ 0 ≤ x ∧ x < (2 : Int) ^ W.toNat := by
 simp only [bothR, Bool.and_eq_true, stB] at h
 have h1 := regB_true h.1
 have h2 := inR_true h.2
 omega
theorem l02Both_any (b o : Nat) (W T x : Int) (w : World) (h0 : w.cell? ⟨b, o, none⟩ = some (.int .i64 W)) (h1 : w.cell? ⟨b, o + 1, none⟩ = some (.int .i64 T)) :
  Calls Tryz.prog 76 #[.pointer (some ⟨b, o, none⟩), .int .i64 x] w fun e w' => e = .returned (.bool (bothR W T x)) ∧ ∃ n, w' = w.drewN n := by
 cases hB : regB W T
 ·go_enter Tryz.func76, Tryz.ntmps76
  go_wp2_with (go_at_call 123; refine (l02Is_any _ _ W T _ h0 h1).mono ?_; rintro e w1 ⟨rfl, k, rfl⟩)
  go_ret
  exact ⟨ret_bool (by simp [bothR, hB]), _, rfl⟩
 ·obtain ⟨g1, g2, _⟩ := regB_true hB
  obtain ⟨V, rfl⟩ := Int.eq_ofNat_of_zero_le g1
  go_enter Tryz.func76, Tryz.ntmps76
  go_wp2_with (first | (go_at_call 123; refine (l02Is_any _ _ (V : Int) T _ h0 h1).mono ?_; rintro e w1 ⟨rfl, k, rfl⟩) | (go_at_call 124; refine (l02State_any V _ (by omega) _).mono ?_; rintro e w' ⟨rfl, rfl⟩))
  go_ret
  exact ⟨ret_bool (by simp [bothR, hB]), _, rfl⟩
def nextR (W T x : Nat) : Nat := if W = 0 then 0 else x / 2 ||| PopM.par (x &&& T) * 2 ^ (W - 1)
theorem nextR_lt {W T x : Nat} (hx : x < 2 ^ W) : nextR W T x < 2 ^ W := by
 unfold nextR
 by_cases h : W = 0
 ·rw [if_pos h]; exact Nat.two_pow_pos W
 ·rw [if_neg h]
  obtain ⟨V, rfl⟩ : ∃ V, W = V + 1 := ⟨W - 1, by omega⟩
  have hp := PopM.par_lt (x &&& T)
  rw [Nat.pow_succ] at hx
  have h1 : PopM.par (x &&& T) * 2 ^ (V + 1 - 1) < 2 ^ (V + 1) := by
   rw [Nat.add_sub_cancel, Nat.pow_succ]
   have : PopM.par (x &&& T) * 2 ^ V ≤ 1 * 2 ^ V := Nat.mul_le_mul_right _ (by omega)
   have := Nat.two_pow_pos V
   omega
  exact Nat.or_lt_two_pow (by rw [Nat.pow_succ]; omega) h1
theorem nextR_int {W T x : Nat} (hW : 1 ≤ W) (hW2 : W ≤ 16) (hx : x < 2 ^ W) : bits .or .i64 ((x : Int) / 2) (wrap64 ((PopM.par (x &&& T) : Int) * (2 : Int) ^ (W - 1))) = ((nextR W T x : Nat) : Int) := by
 have hp := PopM.par_lt (x &&& T)
 have hW3 : 2 ^ W ≤ 65536 := Nat.pow_le_pow_right (by decide) hW2
 have h1 : 2 ^ (W - 1) ≤ 65536 := Nat.le_trans (Nat.pow_le_pow_right (by decide) (by omega)) hW3
 have h2 : PopM.par (x &&& T) * 2 ^ (W - 1) ≤ 1 * 65536 := Nat.mul_le_mul (by omega) h1
 have e : (PopM.par (x &&& T) : Int) * (2 : Int) ^ (W - 1) = ((PopM.par (x &&& T) * 2 ^ (W - 1) : Nat) : Int) := by simp
 have e2 : wrap64 (((PopM.par (x &&& T) * 2 ^ (W - 1) : Nat) : Int)) = ((PopM.par (x &&& T) * 2 ^ (W - 1) : Nat) : Int) := by simp only [wrap64]; omega
 rw [e, e2, show ((x : Int) / 2) = ((x / 2 : Nat) : Int) by omega, i64_or_nat _ _ (by omega) (by omega)]
 unfold nextR
 rw [if_neg (by omega)]
theorem ret_two {k : IntKind} {a b c d : Int} (h : a = b) (h' : c = d) : Ending.returned (.tuple #[.int k a, .int k c]) = .returned (.tuple #[.int k b, .int k d]) := by rw [h, h']
theorem l02Step_pos (b o W T x : Nat) (w : World) (h0 : w.cell? ⟨b, o, none⟩ = some (.int .i64 W)) (h1 : w.cell? ⟨b, o + 1, none⟩ = some (.int .i64 T)) (hW : 1 ≤ W) (hW2 : W ≤ 16) (hT : T < 2 ^ W) (hx : x < 2 ^ W) :
  Calls Tryz.prog 173 #[.pointer (some ⟨b, o, none⟩), .int .i64 x] w fun e w' => e = .returned (.tuple #[.int .i64 (nextR W T x : Nat), .int .i64 (x % 2 : Nat)]) ∧ ∃ n, w' = w.drewN n := by
 have hp : 2 ^ W ≤ 65536 := Nat.pow_le_pow_right (by decide) hW2
 have HA := Lib.hid (i64_and_nat x T (by omega) (by omega))
 have HB := Lib.hid (nextR_int (T := T) hW hW2 hx)
 have HC := Lib.hid (and1 x (by omega))
 have hand : x &&& T ≤ x := Nat.and_le_left
 have hW0 : ((W : Int) == 0) = false := by simp; omega
 go_enter Tryz.func173, Tryz.ntmps173
 go_wp2
 go_quiet ((go_at_call 174; rw [HA.out]; exact Calls.quiet_of_same (l02Parity_q (x &&& T) (by omega) _)))
 go_wp2
 go_ret2
 exact ⟨ret_two HB.out HC.out, _, rfl⟩
def StepRet (W T x : Nat) (w : World) (e : Ending) (w' : World) : Prop := e = .returned (.tuple #[.int .i64 (nextR W T x : Nat), .int .i64 (x % 2 : Nat)]) ∧ ∃ n, w' = w.drewN n
theorem l02Step_any (b o W T x : Nat) (w : World) (h0 : w.cell? ⟨b, o, none⟩ = some (.int .i64 W)) (h1 : w.cell? ⟨b, o + 1, none⟩ = some (.int .i64 T)) (hW2 : W ≤ 16) (hT : T < 2 ^ W) (hx : x < 2 ^ W) :
  Calls Tryz.prog 173 #[.pointer (some ⟨b, o, none⟩), .int .i64 x] w (StepRet W T x w) := by
 by_cases hW : W = 0
 ·subst hW
  obtain rfl : x = 0 := by simpa using hx
  go_enter Tryz.func173, Tryz.ntmps173
  go_wp2
  go_ret2
  exact ⟨rfl, 0, rfl⟩
 ·exact l02Step_pos b o W T x w h0 h1 (by omega) hW2 hT hx
noncomputable def preR (W T x : Int) : Int := if bothR W T x = true then CycM.preOf (nextR W.toNat T.toNat) x.toNat else 0
noncomputable def perR (W T x : Int) : Int := if bothR W T x = true then CycM.perOf (nextR W.toNat T.toNat) x.toNat else 0
theorem preR_eq {m f x : Int} (h : bothR m f x = true) {j n : Nat} (hc : CycM.IsCyc (nextR m.toNat f.toNat) x.toNat j n) : preR m f x = j := by
 rw [preR, if_pos h, CycM.preOf_of hc]
theorem perR_eq {m f x : Int} (h : bothR m f x = true) {j n : Nat} (hc : CycM.IsCyc (nextR m.toNat f.toNat) x.toNat j n) : perR m f x = (n : Int) - j := by
 rw [perR, if_pos h, CycM.perOf_of hc]
end Go.Proofs.YtgipnbeipfhekaaGreatDoor.Reg
namespace Go.Proofs.YtgipnbeipfhekaaGreatDoor.Reg
open Go.RowKit Go.Proofs.YtgipnbeipfhekaaGreatDoor Go.Proofs.YtgipnbeipfhekaaGreatDoor.Base Go.Proofs.YtgipnbeipfhekaaGreatDoor.Bits
set_option linter.unusedVariables false
theorem validReg_any (W T : Int) (w : World) :
  Calls Tryz.prog 116 #[.agg #[.int .i64 W, .int .i64 T]] w fun e w' => e = .returned (.bool (regB W T)) ∧ Below w.heap.size w w' := by
 cases hm : inR W 0 16
 ·go_enter Tryz.func116, Tryz.ntmps116
  go_wp2
  go_quiet ((go_at_call 31; exact Calls.quiet_of_same (inRange_qb hm _)))
  go_wp2
  go_ret
  exact ⟨ret_bool (by simp [regB, hm]), below_drewN ((Below.refl _ _).alloc (Nat.le_refl _) _) _⟩
 ·obtain ⟨b1, b2⟩ := inR_true hm
  obtain ⟨V, rfl⟩ := Int.eq_ofNat_of_zero_le b1
  obtain ⟨p1, p2⟩ := pw_bd (W := V) (by omega)
  cases hf : stB V T
  all_goals
   have hg := Lib.hid hf
   unfold stB at hf
   go_enter Tryz.func116, Tryz.ntmps116
   go_wp2
   go_quiet ((go_at_call 31; first | (with_reducible exact Calls.quiet_of_same (inRange_qb hm _)) | (with_reducible exact Calls.quiet_of_same (inRange_qb hf _))))
   go_wp2
   go_ret
   exact ⟨ret_bool (by simp [regB, hm, hg.out]), below_drewN ((Below.refl _ _).alloc (Nat.le_refl _) _) _⟩
theorem isRegState_any (W T x : Int) (w : World) :
  Calls Tryz.prog 66 #[.agg #[.int .i64 W, .int .i64 T], .int .i64 x] w fun e w' => e = .returned (.bool (bothR W T x)) ∧ Below w.heap.size w w' := by
 cases hB : regB W T
 ·go_enter Tryz.func66, Tryz.ntmps66
  go_wp2_with (go_at_call 116; refine (validReg_any W T _).mono ?_; rintro e w1 ⟨rfl, hb1⟩)
  go_ret
  exact ⟨ret_bool (by simp [bothR, hB]), Base.Below.boxed hb1⟩
 ·obtain ⟨g1, g2, _⟩ := regB_true hB
  obtain ⟨V, rfl⟩ := Int.eq_ofNat_of_zero_le g1
  obtain ⟨p1, p2⟩ := pw_bd (W := V) (by omega)
  go_enter Tryz.func66, Tryz.ntmps66
  go_wp2_with (first | (go_at_call 116; refine (validReg_any (V : Int) T _).mono ?_; rintro e w1 ⟨rfl, hb1⟩; have d0 : w1.cell? ⟨w.heap.size, 0, none⟩ = some (.int .i64 (V : Int)) := box_cells hb1 0) | (go_at_call 31; refine (inRange_any _ _ _ _).mono ?_; rintro e w' ⟨rfl, rfl⟩))
  go_ret
  exact ⟨ret_bool (by simp [bothR, hB, stB]), Base.Below.boxed hb1⟩
theorem nextR_int' {W T x : Nat} (hW : 1 ≤ W) (hW2 : W ≤ 16) (hx : x < 2 ^ W) : bits .or .i64 ((x : Int) / 2) (wrap64 ((PopM.par (T &&& x) : Int) * (2 : Int) ^ (W - 1))) = ((nextR W T x : Nat) : Int) := by
 rw [Nat.and_comm]; exact nextR_int hW hW2 hx
def StepRetI (W T x : Nat) (w : World) (e : Ending) (w' : World) : Prop := e = .returned (.tuple #[.int .i64 (nextR W T x : Nat), .int .i64 (x % 2 : Nat)]) ∧ Below w.heap.size w w'
theorem implStep_any (W T x : Nat) (w : World) (hW2 : W ≤ 16) (hT : T < 2 ^ W) (hx : x < 2 ^ W) :
  Calls Tryz.prog 118 #[.agg #[.int .i64 W, .int .i64 T], .int .i64 x] w (StepRetI W T x w) := by
 by_cases hW : W = 0
 ·subst hW
  obtain rfl : x = 0 := by simpa using hx
  go_enter Tryz.func118, Tryz.ntmps118
  go_wp2
  go_ret2
  exact ⟨rfl, (Below.refl _ _).alloc (Nat.le_refl _) _⟩
 ·have hp : 2 ^ W ≤ 65536 := Nat.pow_le_pow_right (by decide) hW2
  have HA := Lib.hid (i64_and_nat T x (by omega) (by omega))
  have HB := Lib.hid (nextR_int' (T := T) (by omega) hW2 hx)
  have HC := Lib.hid (and1 x (by omega))
  have hand : T &&& x ≤ x := Nat.and_le_right
  have hW0 : ((W : Int) == 0) = false := by simp; omega
  go_enter Tryz.func118, Tryz.ntmps118
  go_wp2
  go_quiet ((go_at_call 172; rw [HA.out]; exact Calls.quiet_of_same (parity_q (T &&& x) (by omega) _)))
  go_wp2
  go_ret2
  exact ⟨ret_two HB.out HC.out, below_drewN ((Below.refl _ _).alloc (Nat.le_refl _) _) _⟩
theorem closure_any (b W T x : Nat) (w : World) (h0 : w.cell? ⟨b, 0, none⟩ = some (.int .i64 W)) (h1 : w.cell? ⟨b, 1, none⟩ = some (.int .i64 T)) (hW2 : W ≤ 16) (hT : T < 2 ^ W) (hx : x < 2 ^ W) :
  Calls Tryz.prog 122 #[.int .i64 x, .pointer (some ⟨b, 0, none⟩)] w fun e w' => e = .returned (.int .i64 (nextR W T x : Nat)) ∧ Below w.heap.size w w' := by
 go_enter Tryz.func122, Tryz.ntmps122
 go_wp2_with (go_at_call 118; refine (implStep_any W T x _ hW2 hT hx).mono ?_; rintro e w1 ⟨rfl, hb1⟩)
 go_ret
 exact ⟨rfl, hb1⟩
set_option maxHeartbeats 1000000 in
theorem cycleFromR_any (b W T x : Nat) (w : World) (h0 : w.cell? ⟨b, 0, none⟩ = some (.int .i64 W)) (h1 : w.cell? ⟨b, 1, none⟩ = some (.int .i64 T)) (hb : b < w.heap.size) (hW2 : W ≤ 16) (hT : T < 2 ^ W) (hx : x < 2 ^ W) :
  Calls Tryz.prog 121 #[.int .i64 ((2 : Int) ^ W), .int .i64 x, .func (Fn.func 122) #[] #[.pointer (some ⟨b, 0, none⟩)]] w (Cong.CycRet (nextR W T) x w) := by
 have hp : 2 ^ W ≤ 65536 := Nat.pow_le_pow_right (by decide) hW2
 have hmk := run_make_row' (P := Tryz.prog) 43 2 (.int .i64 0) 8 Tryz.underlying43 Cong.info64 rfl .i64 .i64 (2 ^ W) (by omega) (by omega)
 have ep : ((2 ^ W : Nat) : Int) = (2 : Int) ^ W := by simp
 rw [ep] at hmk
 have hTT : ∀ s, s < 2 ^ W → nextR W T s < 2 ^ W := fun s hs => nextR_lt hs
 clear ep
 go_enter Tryz.func121, Tryz.ntmps121
 go_wp2
 clear hmk
 go_loopw [1, 9] (fun xv nv wr => Cong.CycRel (nextR W T) x (2 ^ W) 2 w xv nv wr) (fun _ nv _ => 2 ^ W + 2 - (intOf nv).toNat)
 case atStart => exact Cong.CycRel.start _ _ _ _ _
 case round =>
  obtain ⟨n, F, hn, hS, hrow, hbel, rfl, rfl⟩ := hrel
  have hlt := CycM.iter_lt hTT hx n
  have HS := Lib.hid (hS.done hTT hx)
  have hpos : F (CycM.iter (nextR W T) x n) ≠ 0 → F (CycM.iter (nextR W T) x n) ≤ n := fun h => (hS.pos _ hlt h).1
  have HF := Lib.hid (Cong.CycRel.next2 (t := 2) (w := w) hTT hx hS hrow hbel)
  have hz : w.heap.size < wr.heap.size := hrow.lt
  have ef := hrow.frozen (CycM.iter (nextR W T) x n)
  have ec := hrow.cell hlt
  obtain ⟨hc, hfz⟩ := bcell hbel
  have e0 := (hc b 0 hb).trans h0
  have e1 := (hc b 1 hb).trans h1
  clear hS hrow hc hfz h0 h1
  generalize CycM.iter (nextR W T) x n = s at *
  by_cases hz0 : F s = 0
  ·rw [hz0] at ec
   have g0 := Cong.setOther (w := wr) (B := w.heap.size) (s := s) hb e0
   have g1 := Cong.setOther (w := wr) (B := w.heap.size) (s := s) hb e1
   clear e0 e1 hpos
   go_wp2_with (go_at_call 122; refine (closure_any b W T s _ (g0 _) (g1 _) hW2 hT hlt).mono ?_; rintro e w1 ⟨rfl, hb1⟩)
   go_roundw
   case rel => exact HF.out hz0 _ (hb1.mono (by simp))
   case measure => simp [intOf]; omega
  ·have hF1 : 1 ≤ F s := by omega
   have hF2 := hpos hz0
   clear hpos
   go_wp2
   go_ret2
   exact Cong.CycRet.mk (HS.out hz0) hF1 (by omega) rfl hbel
theorem cycleR_any (W T x : Nat) (w : World) (hW2 : W ≤ 16) (hT : T < 2 ^ W) (hx : x < 2 ^ W) :
  Calls Tryz.prog 73 #[.agg #[.int .i64 W, .int .i64 T], .int .i64 x] w (Cong.CycRet (nextR W T) x w) := by
 obtain ⟨p1, p2⟩ := pw_bd hW2
 go_enter Tryz.func73, Tryz.ntmps73
 go_wp2_with (go_at_call 121; refine (cycleFromR_any _ W T x _ (by simp) (by simp) (by simp) hW2 hT hx).mono ?_; rintro e w1 ⟨j, n, hc, rfl, hb1⟩; have HC := Lib.hid hc; clear hc)
 go_ret2
 exact ⟨j, n, HC.out, rfl, Base.Below.boxed hb1⟩
end Go.Proofs.YtgipnbeipfhekaaGreatDoor.Reg

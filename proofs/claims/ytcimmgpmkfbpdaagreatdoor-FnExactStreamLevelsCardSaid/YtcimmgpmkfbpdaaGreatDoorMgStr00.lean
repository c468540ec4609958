/- Small contracts that nearly all walks use: the tests of a range, least and greatest. -/
import Derived.Test.YtcimmgpmkfbpdaaGreatDoorRows
import Derived.WalkKit
import Derived.Lib.Hide
import Derived.Deep.QuietTactic
import Derived.BigQuiet
import Derived.Deep.Draws
import Derived.Below
import Derived.Outline
import Derived.Deep.OwnRows
import Derived.OwnWalk
import Derived.Laws.OwnMore
import Derived.Laws.Rows
import Derived.Maps.AppendAt
import Derived.BigRegion
import Derived.Laws.BitsAllLaws
import Derived.Laws.BitsLemmas
namespace Go.Proofs.YtcimmgpmkfbpdaaGreatDoor.Base
open Go.RowKit Go.Proofs.YtcimmgpmkfbpdaaGreatDoor
set_option linter.unusedVariables false
theorem ret_int {k : IntKind} {a b : Int} (h : a = b) : Ending.returned (.int k a) = .returned (.int k b) := by rw [h]
theorem ret_bool {a b : Bool} (h : a = b) : Ending.returned (.bool a) = .returned (.bool b) := by rw [h]
def inR (n lo hi : Int) : Bool := decide (lo ≤ n) && decide (n ≤ hi)
theorem inR_true {n lo hi : Int} (h : inR n lo hi = true) : lo ≤ n ∧ n ≤ hi := by simpa [inR] using h
theorem inR_yes {n lo hi : Int} (h : lo ≤ n ∧ n ≤ hi) : inR n lo hi = true := by simp [inR, h.1, h.2]
theorem inRange_any (n lo hi : Int) (w : World) :
  Calls Tryz.prog 34 #[.int .i64 n, .int .i64 lo, .int .i64 hi] w fun e w' => e = .returned (.bool (inR n lo hi)) ∧ w = w' := by
 by_cases h1 : lo ≤ n
 all_goals by_cases h2 : n ≤ hi
 all_goals
  go_enter Tryz.func34, Tryz.ntmps34
  go_wp2
  go_ret
  exact ⟨ret_bool (by simp [inR, h1, h2]), rfl⟩
theorem l00In_any (n lo hi : Int) (w : World) :
  Calls Tryz.prog 23 #[.int .i64 n, .int .i64 lo, .int .i64 hi] w fun e w' => e = .returned (.bool (inR n lo hi)) ∧ w = w' := by
 by_cases h1 : lo ≤ n
 all_goals by_cases h2 : n ≤ hi
 all_goals
  go_enter Tryz.func23, Tryz.ntmps23
  go_wp2
  go_ret
  exact ⟨ret_bool (by simp [inR, h1, h2]), rfl⟩
theorem inRange_q (n lo hi : Int) (w : World) :
  Calls Tryz.prog 34 #[.int .i64 n, .int .i64 lo, .int .i64 hi] w fun e w' => e = .returned (.bool (inR n lo hi)) ∧ w' = w :=
 (inRange_any n lo hi w).mono fun _ _ h => ⟨h.1, h.2.symm⟩
theorem l00In_q (n lo hi : Int) (w : World) :
  Calls Tryz.prog 23 #[.int .i64 n, .int .i64 lo, .int .i64 hi] w fun e w' => e = .returned (.bool (inR n lo hi)) ∧ w' = w :=
 (l00In_any n lo hi w).mono fun _ _ h => ⟨h.1, h.2.symm⟩
theorem inRange_qb {n lo hi : Int} {r : Bool} (h : inR n lo hi = r) (w : World) :
  Calls Tryz.prog 34 #[.int .i64 n, .int .i64 lo, .int .i64 hi] w fun e w' => e = .returned (.bool r) ∧ w' = w := by
 subst h; exact inRange_q n lo hi w
theorem l00In_qb {n lo hi : Int} {r : Bool} (h : inR n lo hi = r) (w : World) :
  Calls Tryz.prog 23 #[.int .i64 n, .int .i64 lo, .int .i64 hi] w fun e w' => e = .returned (.bool r) ∧ w' = w := by
 subst h; exact l00In_q n lo hi w
theorem below_drewN {B : Nat} {a w : World} (h : Below B a w) (n : Nat) : Below B a (w.drewN n) := ⟨h.os, h.tape, h.output, h.size, h.block⟩
theorem box_cells {w wX : World} {cs : Array Value} {T : TypeId} (h : Below (w.alloc (.cells cs T)).heap.size (w.alloc (.cells cs T)) wX) (i : Nat) : wX.cell? ⟨w.heap.size, i, none⟩ = cs[i]? := by
 rw [h.cell (p := ⟨w.heap.size, i, none⟩) (by simp)]
 exact World.cell?_alloc_new w cs T i
theorem Below.next {B : Nat} {w w1 w2 : World} (h : Below B w w1) (h2 : Below w1.heap.size w1 w2) (hB : B ≤ w.heap.size) : Below B w w2 := h.trans (h2.mono (Nat.le_trans hB h.size))
theorem Below.nextA {w w1 w2 : World} (h : Below w.heap.size w w1) (h2 : Below w1.heap.size w1 w2) : Below w.heap.size w w2 := h.trans (h2.mono h.size)
theorem Below.boxed {w w1 : World} {o : Obj} (h : Below (w.alloc o).heap.size (w.alloc o) w1) : Below w.heap.size w w1 := ((Below.refl _ _).alloc (Nat.le_refl _) _).trans (h.mono (by simp))
theorem wp_region_below {P : Program} {id : Nat} {Q : Exit → Act → World → Prop} {a : Act} {w : World} {l : List Oper} (hm : P.follows .mixedOrders = true) (hB : Region.lexB .any l.toArray = true)
  (h : wpQuiet P l.toArray (Below w.heap.size w) (fun a' => ∀ w', Below w.heap.size w w' → Q .normal a' w') l a) : (Code.region id l.toArray true).wp P Q a w :=
 wp_region_quiet (C := Below w.heap.size w) hm hB ((Below.refl w.heap.size w).drew) (by simpa using h)
attribute [irreducible] inR
end Go.Proofs.YtcimmgpmkfbpdaaGreatDoor.Base
namespace Go.Proofs.YtcimmgpmkfbpdaaGreatDoor.Mem
open Go.RowKit Go.Proofs.YtcimmgpmkfbpdaaGreatDoor Go.Proofs.YtcimmgpmkfbpdaaGreatDoor.Base
set_option linter.unusedVariables false
def marks (k n : Nat) : List Int := (List.range n).map fun i => ((k + i : Nat) : Int)
theorem marks_len (k n : Nat) : (marks k n).length = n := by simp [marks]
theorem marks_getD (k n i : Nat) (h : i < n) : (marks k n).getD i 0 = ((k + i : Nat) : Int) := by simp [marks, h]
theorem marks_succ (k n : Nat) : marks k (n + 1) = marks k n ++ [((k + n : Nat) : Int)] := by simp [marks, List.range_succ]
theorem mixed_set (k i : Nat) (xs : List Int) (h : i < xs.length) : (marks k i ++ xs.drop i).set i ((k + i : Nat) : Int) = marks k (i + 1) ++ xs.drop (i + 1) := by
 rw [List.set_append_right _ _ (by rw [marks_len]; omega), marks_len, Nat.sub_self, List.drop_eq_getElem_cons h, List.set_cons_zero, marks_succ, List.append_assoc]
 rfl
def mk : Nat → List (List Int) → List (List Int)
 | _, [] => []
 | k, xs :: r => marks k xs.length :: mk (k + xs.length) r
def RdI (w : World) (B : Nat) (A : Option Addr) (xs : List Int) : Prop :=
 0 < xs.length → ∃ b off, A = some ⟨b, off, none⟩ ∧ b < B ∧ ∀ i, i < xs.length → w.cell? ⟨b, off + i, none⟩ = some (.int .i64 (xs.getD i 0))
theorem RdI.below {w w' : World} {B C : Nat} {A : Option Addr} {xs : List Int} (h : RdI w B A xs) (hb : Below C w w') (hBC : B ≤ C) : RdI w' B A xs := fun h0 => by
 obtain ⟨b, off, e, hlt, hc⟩ := h h0
 exact ⟨b, off, e, hlt, fun i hi => (hb.cell (p := ⟨b, off + i, none⟩) (by show b < C; omega)).trans (hc i hi)⟩
theorem RdI.more {w : World} {B C : Nat} {A : Option Addr} {xs : List Int} (h : RdI w B A xs) (hBC : B ≤ C) : RdI w C A xs := fun h0 => by
 obtain ⟨b, off, e, hlt, hc⟩ := h h0
 exact ⟨b, off, e, by omega, hc⟩
theorem RdI.drewN {w : World} {B : Nat} {A : Option Addr} {xs : List Int} (h : RdI w B A xs) (n : Nat) : RdI (w.drewN n) B A xs := h.below (below_drewN (Below.refl B w) n) (Nat.le_refl _)
def Drawn (w w' : World) : Prop := ∃ m, w' = w.drewN m
theorem Drawn.refl (w : World) : Drawn w w := ⟨0, rfl⟩
theorem Drawn.next {w w' : World} (h : Drawn w w') (n : Nat) : Drawn w (w'.drewN n) := by
 obtain ⟨m, rfl⟩ := h
 exact ⟨m + n, by rw [World.drewN_drewN]⟩
theorem Drawn.below {B : Nat} {w w' : World} (h : Drawn w w') : Below B w w' := by
 obtain ⟨m, rfl⟩ := h
 exact below_drewN (Below.refl _ _) m
def ints (xs : List Int) : List Value := xs.map (Value.int .i64)
theorem ints_len (xs : List Int) : (ints xs).length = xs.length := by simp [ints]
theorem ints_get (xs : List Int) (i : Nat) (h : i < xs.length) : (ints xs)[i]? = some (.int .i64 (xs.getD i 0)) := by simp [ints, List.getD, h]
def OwnI (w : World) (B : Nat) (u : Value) (xs : List Int) : Prop := w.ownsRow B 2 1 u xs.length (ints xs)
theorem ownsRow_form {w : World} {base : Nat} {e : TypeId} {size n : Nat} {v : Value} {xs : List Value} (h : w.ownsRow base e size v n xs) : ∃ A c, v = .slice A n c ∧ (0 < n → ∃ g, A = some ⟨g, 0, none⟩ ∧ base ≤ g ∧ g < w.heap.size) := by
 rcases h.2 with ⟨rfl, rfl⟩ | ⟨g, cap, cur, rfl, hb, hh, _⟩
 ·exact ⟨none, 0, rfl, fun h => absurd h (Nat.lt_irrefl 0)⟩
 ·refine ⟨some ⟨g, 0, none⟩, cap, rfl, fun _ => ⟨g, rfl, hb, ?_⟩⟩
  rcases Nat.lt_or_ge g w.heap.size with hlt | hge
  ·exact hlt
  ·rw [Array.getElem?_eq_none hge] at hh; cases hh
theorem ownsRow_below {w w' : World} {base : Nat} {e : TypeId} {size n : Nat} {v : Value} {xs : List Value} (h : w.ownsRow base e size v n xs) (hb : Below w.heap.size w w') : w'.ownsRow base e size v n xs := by
 refine ⟨h.1, ?_⟩
 rcases h.2 with h0 | ⟨g, cap, cur, rfl, h1, hh, h2⟩
 ·exact .inl h0
 ·have hlt : g < w.heap.size := by
   rcases Nat.lt_or_ge g w.heap.size with hlt | hge
   ·exact hlt
   ·rw [Array.getElem?_eq_none hge] at hh; cases hh
  exact .inr ⟨g, cap, cur, rfl, h1, (hb.block g hlt).trans hh, h2⟩
theorem ownsRow_base {w : World} {base base' : Nat} {e : TypeId} {size n : Nat} {v : Value} {xs : List Value} (h : w.ownsRow base e size v n xs) (hb : base' ≤ base) : w.ownsRow base' e size v n xs := by
 refine ⟨h.1, ?_⟩
 rcases h.2 with h0 | ⟨g, cap, cur, rfl, h1, h2⟩
 ·exact .inl h0
 ·exact .inr ⟨g, cap, cur, rfl, by omega, h2⟩
theorem OwnI.rd {w : World} {B n c : Nat} {A : Option Addr} {xs : List Int} (h : OwnI w B (.slice A n c) xs) : RdI w w.heap.size A xs := fun h0 => by
 obtain ⟨A', c', e, hf⟩ := ownsRow_form h
 injection e with e1 e2 e3
 subst e1 e2 e3
 obtain ⟨g, rfl, _, hlt⟩ := hf h0
 refine ⟨g, 0, rfl, hlt, fun i hi => ?_⟩
 rw [Nat.zero_add, World.ownsRow.cellAt h i (by omega), ints_get xs i hi]
theorem OwnI.form {w : World} {B : Nat} {u : Value} {xs : List Int} (h : OwnI w B u xs) : ∃ A c, u = .slice A xs.length c ∧ (0 < xs.length → ∃ g, A = some ⟨g, 0, none⟩ ∧ B ≤ g ∧ g < w.heap.size) := ownsRow_form h
theorem OwnI.below {w w' : World} {B : Nat} {u : Value} {xs : List Int} (h : OwnI w B u xs) (hb : Below w.heap.size w w') : OwnI w' B u xs := ownsRow_below h hb
theorem grown_trans {a b c : World} {row : Option Nat} (h : a.grownBy b row) (k : b.grownBy c row) : a.grownBy c row :=
 ⟨k.os.trans h.os, k.tape.trans h.tape, k.output.trans h.output, Nat.le_trans h.size k.size, fun i hi hne => (k.block i (Nat.lt_of_lt_of_le hi h.size) hne).trans (h.block i hi hne)⟩
theorem ints_set (xs : List Int) (i : Nat) (x : Int) : (ints xs).set i (.int .i64 x) = ints (xs.set i x) := by simp [ints, List.map_set]
theorem ownsRow_block {w : World} {base : Nat} {e : TypeId} {size n g : Nat} {v : Value} {xs : List Value} (h : w.ownsRow base e size v n xs) (hg : v.ownBlock = some g) : ∃ cur, w.heap[g]? = some (.cells cur e (0, 0)) ∧ base ≤ g ∧ g < w.heap.size := by
 rcases h.2 with ⟨rfl, _⟩ | ⟨g', cap, cur, rfl, hb, hh, _⟩
 ·simp [Value.ownBlock] at hg
 ·have : g' = g := by simpa [Value.ownBlock] using hg
  subst this
  refine ⟨cur, hh, hb, ?_⟩
  rcases Nat.lt_or_ge g' w.heap.size with hlt | hge
  ·exact hlt
  ·rw [Array.getElem?_eq_none hge] at hh; cases hh
theorem grown_below {B : Nat} {w w' : World} {row : Option Nat} (h : w.grownBy w' row) (hr : ∀ g, row = some g → B ≤ g) (hB : B ≤ w.heap.size) : Below B w w' := (Below.refl B w).grown h hB hr
def mixed (k : Nat) (xss : List (List Int)) (j : Nat) : List (List Int) := (mk k xss).take j ++ xss.drop j
theorem infoI : (Tryz.prog.info? 2).map (fun i => (i.zero, i.size, i.bytes)) = some (some (.int .i64 0), 1, 8) := by kernel_rfl
theorem own_lit (w : World) {B : Nat} (hB : B ≤ w.heap.size) (xs : List Int) (hm : xs.length ≤ maxLen) : (w.alloc (.cells (ints xs).toArray 2)).ownsRow B 2 1 (.slice (some ⟨w.heap.size, 0, none⟩) xs.length xs.length) xs.length (ints xs) := by
 have := World.ownsRow_lit (e := 2) (size := 1) (base := B) w (ints xs).toArray xs.length hB hm (by simp [ints_len])
 simpa using this
theorem news_one (w : World) (u : Value) (t : TypeId) {g : Nat} (hg : g = w.heap.size) : ∀ (j : Nat) (x : Value), [u][j]? = some x → (w.alloc (.cells #[u] t)).cell? ((⟨g, 0, none⟩ : Addr).add j) = some x := by
 subst hg
 intro j x hx
 match j with
 | 0 =>
  have : u = x := by simpa using hx
  subst this
  exact World.cell?_alloc_new w #[u] t 0
 | j + 1 => simp at hx
theorem one_int {k : IntKind} {n : Int} : ∀ u ∈ [Value.int k n], u.oneCell' = true := by
 intro u hu
 simp only [List.mem_singleton] at hu
 subst hu; rfl
def RdB (w : World) (B : Nat) (A : Option Addr) (zs : List Int) : Prop :=
 0 < zs.length → ∃ b off, A = some ⟨b, off, none⟩ ∧ b < B ∧ ∀ i, i < zs.length → w.cell? ⟨b, off + i, none⟩ = some (.int .u8 (zs.getD i 0))
theorem RdB.below {w w' : World} {B C : Nat} {A : Option Addr} {xs : List Int} (h : RdB w B A xs) (hb : Below C w w') (hBC : B ≤ C) : RdB w' B A xs := fun h0 => by
 obtain ⟨b, off, e, hlt, hc⟩ := h h0
 exact ⟨b, off, e, hlt, fun i hi => (hb.cell (p := ⟨b, off + i, none⟩) (by show b < C; omega)).trans (hc i hi)⟩
theorem RdB.more {w : World} {B C : Nat} {A : Option Addr} {xs : List Int} (h : RdB w B A xs) (hBC : B ≤ C) : RdB w C A xs := fun h0 => by
 obtain ⟨b, off, e, hlt, hc⟩ := h h0
 exact ⟨b, off, e, by omega, hc⟩
theorem RdB.drewN {w : World} {B : Nat} {A : Option Addr} {xs : List Int} (h : RdB w B A xs) (n : Nat) : RdB (w.drewN n) B A xs := h.below (below_drewN (Below.refl B w) n) (Nat.le_refl _)
end Go.Proofs.YtcimmgpmkfbpdaaGreatDoor.Mem
namespace Go.Proofs.YtcimmgpmkfbpdaaGreatDoor.Rev
open Go.RowKit Go.Proofs.YtcimmgpmkfbpdaaGreatDoor Go.Proofs.YtcimmgpmkfbpdaaGreatDoor.Base Go.Proofs.YtcimmgpmkfbpdaaGreatDoor.Mem
set_option linter.unusedVariables false
end Go.Proofs.YtcimmgpmkfbpdaaGreatDoor.Rev
namespace Go.Proofs.YtcimmgpmkfbpdaaGreatDoor.AllIn
open Go.RowKit Go.Proofs.YtcimmgpmkfbpdaaGreatDoor Go.Proofs.YtcimmgpmkfbpdaaGreatDoor.Base Go.Proofs.YtcimmgpmkfbpdaaGreatDoor.Mem
set_option linter.unusedVariables false
theorem lenI_any (A : Option Addr) (n c : Nat) (w : World) (h : n ≤ 9223372036854775807) :
  Calls Tryz.prog 43 #[.slice A n c] w fun e w' => e = .returned (.int .i64 (n : Int)) ∧ w = w' := by
 go_enter Tryz.func43, Tryz.ntmps43
 go_wp2
 go_ret
 exact ⟨rfl, rfl⟩
end Go.Proofs.YtcimmgpmkfbpdaaGreatDoor.AllIn
namespace Go.Proofs.YtcimmgpmkfbpdaaGreatDoor.PopM
set_option linter.unusedVariables false
def T (B : Nat) : Nat → Nat → Nat
 | 0, _ => 0
 | k + 1, x => x % B + T B k (x / B)
def Fld (B m : Nat) : Nat → Nat → Prop
 | 0, x => x = 0
 | k + 1, x => x % B ≤ m ∧ Fld B m k (x / B)
def mask (B e : Nat) : Nat → Nat
 | 0 => 0
 | k + 1 => e + B * mask B e k
theorem T_zero (B k : Nat) : T B k 0 = 0 := by
 induction k with
 | zero => rfl
 | succ k ih => simp [T, ih]
theorem and_split (j a e C : Nat) (he : e < 2 ^ j) : a &&& (e + 2 ^ j * C) = ((a % 2 ^ j) &&& e) + 2 ^ j * ((a / 2 ^ j) &&& C) := by
 have h := Nat.mod_add_div (a &&& (e + 2 ^ j * C)) (2 ^ j)
 rw [Nat.and_mod_two_pow, Nat.and_div_two_pow, Nat.add_mul_mod_self_left, Nat.mod_eq_of_lt he, Nat.add_mul_div_left _ _ (Nat.two_pow_pos j), Nat.div_eq_of_lt he, Nat.zero_add] at h
 exact h.symm
theorem claim1 : ∀ (k x : Nat), x < 4 ^ k → T 4 k ((x / 2 &&& mask 4 1 k) + (x &&& mask 4 1 k)) = T 2 (2 * k) x ∧ Fld 4 2 k ((x / 2 &&& mask 4 1 k) + (x &&& mask 4 1 k))
 | 0, x, h => by simp [mask, T, Fld]
 | k + 1, x, h => by
  have ih := claim1 k (x / 4) (by rw [Nat.pow_succ] at h; omega)
  have e1 := and_split 2 x 1 (mask 4 1 k) (by decide)
  have e2 := and_split 2 (x / 2) 1 (mask 4 1 k) (by decide)
  simp only [show (2 : Nat) ^ 2 = 4 from rfl, nat_mask1] at e1 e2
  have e3 : x / 2 / 4 = x / 4 / 2 := by omega
  rw [e3] at e2
  have hy : (x / 2 &&& mask 4 1 (k + 1)) + (x &&& mask 4 1 (k + 1)) = (x / 2 % 2 + x % 2) + 4 * ((x / 4 / 2 &&& mask 4 1 k) + (x / 4 &&& mask 4 1 k)) := by
   show (x / 2 &&& (1 + 4 * mask 4 1 k)) + (x &&& (1 + 4 * mask 4 1 k)) = _
   rw [e1, e2]; omega
  rw [hy]
  generalize (x / 4 / 2 &&& mask 4 1 k) + (x / 4 &&& mask 4 1 k) = y at *
  have hm : (x / 2 % 2 + x % 2 + 4 * y) % 4 = x / 2 % 2 + x % 2 := by omega
  have hd : (x / 2 % 2 + x % 2 + 4 * y) / 4 = y := by omega
  refine ⟨?_, ?_⟩
  ·show (x / 2 % 2 + x % 2 + 4 * y) % 4 + T 4 k ((x / 2 % 2 + x % 2 + 4 * y) / 4) = x % 2 + (x / 2 % 2 + T 2 (2 * k) (x / 2 / 2))
   rw [hm, hd, ih.1, show x / 2 / 2 = x / 4 by omega]; omega
  ·show (x / 2 % 2 + x % 2 + 4 * y) % 4 ≤ 2 ∧ Fld 4 2 k ((x / 2 % 2 + x % 2 + 4 * y) / 4)
   rw [hm, hd]; exact ⟨by omega, ih.2⟩
theorem claim2 : ∀ (k x : Nat), Fld 4 2 (2 * k) x → T 16 k ((x / 4 &&& mask 16 3 k) + (x &&& mask 16 3 k)) = T 4 (2 * k) x ∧ Fld 16 4 k ((x / 4 &&& mask 16 3 k) + (x &&& mask 16 3 k))
 | 0, x, h => by simp [mask, T, Fld]
 | k + 1, x, h => by
  obtain ⟨h1, h2, h3⟩ : x % 4 ≤ 2 ∧ x / 4 % 4 ≤ 2 ∧ Fld 4 2 (2 * k) (x / 4 / 4) := h
  rw [show x / 4 / 4 = x / 16 by omega] at h3
  have ih := claim2 k (x / 16) h3
  have e1 := and_split 4 x 3 (mask 16 3 k) (by decide)
  have e2 := and_split 4 (x / 4) 3 (mask 16 3 k) (by decide)
  simp only [show (2 : Nat) ^ 4 = 16 from rfl, nat_mask2] at e1 e2
  rw [show x / 4 / 16 = x / 16 / 4 by omega] at e2
  have hy : (x / 4 &&& mask 16 3 (k + 1)) + (x &&& mask 16 3 (k + 1)) = (x / 4 % 4 + x % 4) + 16 * ((x / 16 / 4 &&& mask 16 3 k) + (x / 16 &&& mask 16 3 k)) := by
   show (x / 4 &&& (3 + 16 * mask 16 3 k)) + (x &&& (3 + 16 * mask 16 3 k)) = _
   rw [e1, e2]; omega
  rw [hy]
  generalize (x / 16 / 4 &&& mask 16 3 k) + (x / 16 &&& mask 16 3 k) = y at *
  have hm : (x / 4 % 4 + x % 4 + 16 * y) % 16 = x / 4 % 4 + x % 4 := by omega
  have hd : (x / 4 % 4 + x % 4 + 16 * y) / 16 = y := by omega
  refine ⟨?_, ?_⟩
  ·show (x / 4 % 4 + x % 4 + 16 * y) % 16 + T 16 k ((x / 4 % 4 + x % 4 + 16 * y) / 16) = x % 4 + (x / 4 % 4 + T 4 (2 * k) (x / 4 / 4))
   rw [hm, hd, ih.1, show x / 4 / 4 = x / 16 by omega]; omega
  ·show (x / 4 % 4 + x % 4 + 16 * y) % 16 ≤ 4 ∧ Fld 16 4 k ((x / 4 % 4 + x % 4 + 16 * y) / 16)
   rw [hm, hd]; exact ⟨by omega, ih.2⟩
theorem c3a (x : Nat) (h1 : x % 16 ≤ 4) (h2 : x / 16 % 16 ≤ 4) (h4 : x / 256 % 16 ≤ 4) : (x / 16 + x) / 256 = x / 256 / 16 + x / 256 := by
 obtain ⟨a, ha⟩ : ∃ a, a = x % 16 := ⟨_, rfl⟩
 obtain ⟨b, hb⟩ : ∃ b, b = x / 16 % 16 := ⟨_, rfl⟩
 obtain ⟨e, he⟩ : ∃ e, e = x / 256 % 16 := ⟨_, rfl⟩
 obtain ⟨f, hf⟩ : ∃ f, f = x / 256 / 16 := ⟨_, rfl⟩
 have hx : x = a + 16 * b + 256 * (e + 16 * f) := by omega
 have q1 : x / 16 = b + 16 * (e + 16 * f) := by omega
 have q2 : x / 256 = e + 16 * f := by omega
 have q3 : (e + 16 * f) / 16 = f := by omega
 rw [q1, q2, q3, hx]
 omega
theorem claim3 : ∀ (k x : Nat), Fld 16 4 (2 * k) x → T 256 k ((x / 16 + x) &&& mask 256 15 k) = T 16 (2 * k) x ∧ Fld 256 8 k ((x / 16 + x) &&& mask 256 15 k)
 | 0, x, h => by simp [mask, T, Fld]
 | k + 1, x, h => by
  obtain ⟨h1, h2, h3⟩ : x % 16 ≤ 4 ∧ x / 16 % 16 ≤ 4 ∧ Fld 16 4 (2 * k) (x / 16 / 16) := h
  rw [show x / 16 / 16 = x / 256 by omega] at h3
  have h4 : x / 256 % 16 ≤ 4 := by
   cases k with
   | zero => have h0 : x / 256 = 0 := h3; omega
   | succ k => exact h3.1
  have ih := claim3 k (x / 256) h3
  have e1 := and_split 8 (x / 16 + x) 15 (mask 256 15 k) (by decide)
  simp only [show (2 : Nat) ^ 8 = 256 from rfl, nat_mask4] at e1
  have e2 : (x / 16 + x) / 256 = x / 256 / 16 + x / 256 := c3a x h1 h2 h4
  have e3 : (x / 16 + x) % 256 % 16 = x / 16 % 16 + x % 16 := by omega
  rw [e2, e3] at e1
  have hy : (x / 16 + x) &&& mask 256 15 (k + 1) = (x / 16 % 16 + x % 16) + 256 * ((x / 256 / 16 + x / 256) &&& mask 256 15 k) := e1
  rw [hy]
  generalize (x / 256 / 16 + x / 256) &&& mask 256 15 k = y at *
  have hm : (x / 16 % 16 + x % 16 + 256 * y) % 256 = x / 16 % 16 + x % 16 := by omega
  have hd : (x / 16 % 16 + x % 16 + 256 * y) / 256 = y := by omega
  refine ⟨?_, ?_⟩
  ·show (x / 16 % 16 + x % 16 + 256 * y) % 256 + T 256 k ((x / 16 % 16 + x % 16 + 256 * y) / 256) = x % 16 + (x / 16 % 16 + T 16 (2 * k) (x / 16 / 16))
   rw [hm, hd, ih.1, show x / 16 / 16 = x / 256 by omega]; omega
  ·show (x / 16 % 16 + x % 16 + 256 * y) % 256 ≤ 8 ∧ Fld 256 8 k ((x / 16 % 16 + x % 16 + 256 * y) / 256)
   rw [hm, hd]; exact ⟨by omega, ih.2⟩
theorem fold (A A2 A3 D : Nat) (h1 : A ≤ 4112) (h2 : A2 ≤ 4112) (h3 : A3 ≤ 4112) (hD : D ≤ 4112) (y4 : Nat) (h : y4 = A + 65536 * (A2 + 65536 * (A3 + 65536 * D))) :
  (y4 + y4 / 65536 + (y4 + y4 / 65536) / 4294967296) % 128 = (A + A2 + A3 + D) % 128 := by
 subst h
 have q1 : (A + 65536 * (A2 + 65536 * (A3 + 65536 * D))) / 65536 = A2 + 65536 * (A3 + 65536 * D) := by omega
 rw [q1]
 have q2 : (A + 65536 * (A2 + 65536 * (A3 + 65536 * D)) + (A2 + 65536 * (A3 + 65536 * D))) / 4294967296 = A3 + D + 65536 * D := by omega
 rw [q2]
 omega
theorem dig {k y : Nat} (h : Fld 256 8 (k + 1) y) : ∃ d y', d ≤ 8 ∧ y = d + 256 * y' ∧ Fld 256 8 k y' ∧ ∀ s, T 256 k y' = s → T 256 (k + 1) y = d + s :=
 ⟨y % 256, y / 256, h.1, by omega, h.2, fun s hs => by show y % 256 + T 256 k (y / 256) = _; rw [hs]⟩
theorem Fld.sum {y : Nat} (h : Fld 256 8 8 y) : y < 1157442765409226769 ∧ (y + y / 256 + (y + y / 256) / 65536 + (y + y / 256 + (y + y / 256) / 65536) / 4294967296) % 128 = T 256 8 y ∧ T 256 8 y ≤ 64 := by
 obtain ⟨d0, y1, b0, e0, h, t0⟩ := dig h
 obtain ⟨d1, y2, b1, e1, h, t1⟩ := dig h
 obtain ⟨d2, y3, b2, e2, h, t2⟩ := dig h
 obtain ⟨d3, y4, b3, e3, h, t3⟩ := dig h
 obtain ⟨d4, y5, b4, e4, h, t4⟩ := dig h
 obtain ⟨d5, y6, b5, e5, h, t5⟩ := dig h
 obtain ⟨d6, y7, b6, e6, h, t6⟩ := dig h
 obtain ⟨d7, y8, b7, e7, h, t7⟩ := dig h
 have h8 : y8 = 0 := h
 have ht := t0 _ (t1 _ (t2 _ (t3 _ (t4 _ (t5 _ (t6 _ (t7 0 rfl)))))))
 clear t0 t1 t2 t3 t4 t5 t6 t7 h
 have hq : y / 256 = y1 := by omega
 have hy4 : y + y / 256 = (d0 + d1 + 256 * (d1 + d2)) + 65536 * ((d2 + d3 + 256 * (d3 + d4)) + 65536 * ((d4 + d5 + 256 * (d5 + d6)) + 65536 * (d6 + d7 + 256 * d7))) := by rw [hq]; omega
 have hf := fold _ _ _ _ (by omega) (by omega) (by omega) (by omega) _ hy4
 rw [hf, ht]
 clear hf ht hy4 hq
 exact ⟨by omega, by omega, by omega⟩
def pop (n : Nat) : Nat := T 2 64 n
def par (n : Nat) : Nat := pop n % 2
def S1 (x : Nat) : Nat := (x / 2 &&& 6148914691236517205) + (x &&& 6148914691236517205)
def S2 (x : Nat) : Nat := (x / 4 &&& 3689348814741910323) + (x &&& 3689348814741910323)
def S3 (x : Nat) : Nat := (x / 16 + x) &&& 1085102592571150095
theorem pop_le {n : Nat} (hn : n < 18446744073709551616) : pop n ≤ 64 ∧ S1 n < 18446744073709551616 ∧ S2 (S1 n) < 7378697629483820647 ∧ S3 (S2 (S1 n)) < 1157442765409226769 ∧
  (S3 (S2 (S1 n)) + S3 (S2 (S1 n)) / 256 + (S3 (S2 (S1 n)) + S3 (S2 (S1 n)) / 256) / 65536 + (S3 (S2 (S1 n)) + S3 (S2 (S1 n)) / 256 + (S3 (S2 (S1 n)) + S3 (S2 (S1 n)) / 256) / 65536) / 4294967296) % 128 = pop n := by
 have m1 : mask 4 1 32 = 6148914691236517205 := by decide
 have m2 : mask 16 3 16 = 3689348814741910323 := by decide
 have m3 : mask 256 15 8 = 1085102592571150095 := by decide
 have c1 := claim1 32 n (by exact hn)
 rw [m1] at c1
 have c2 := claim2 16 (S1 n) c1.2
 rw [m2] at c2
 have c3 := claim3 8 (S2 (S1 n)) c2.2
 rw [m3] at c3
 have c4 := Fld.sum (y := S3 (S2 (S1 n))) c3.2
 have ht : T 256 8 (S3 (S2 (S1 n))) = pop n := c3.1.trans (c2.1.trans c1.1)
 rw [ht] at c4
 refine ⟨c4.2.2, ?_, ?_, c4.1, c4.2.1⟩
 ·unfold S1
  have a1 := Nat.and_le_right (n := n / 2) (m := 6148914691236517205)
  have a2 := Nat.and_le_right (n := n) (m := 6148914691236517205)
  omega
 ·unfold S2
  have a1 := Nat.and_le_right (n := S1 n / 4) (m := 3689348814741910323)
  have a2 := Nat.and_le_right (n := S1 n) (m := 3689348814741910323)
  omega
theorem xor_bit (a b : Nat) (ha : a < 2) (hb : b < 2) : a ^^^ b = (a + b) % 2 := by
 rcases (show a = 0 ∨ a = 1 by omega) with rfl | rfl <;> rcases (show b = 0 ∨ b = 1 by omega) with rfl | rfl <;> rfl
theorem T2_half (k x : Nat) (h : x < 2 ^ (k + 1)) : T 2 (k + 1) x = x % 2 + T 2 (k + 1) (x / 2) := by
  show x % 2 + T 2 k (x / 2) = _
  have : ∀ (k x : Nat), x < 2 ^ k → T 2 (k + 1) x = T 2 k x := by
    intro k
    induction k with
    | zero => intro x hx; have : x = 0 := by simpa using hx
              subst this; rfl
    | succ k ih =>
      intro x hx
      show x % 2 + T 2 (k + 1) (x / 2) = x % 2 + T 2 k (x / 2)
      rw [ih (x / 2) (by rw [Nat.pow_succ] at hx; omega)]
  rw [this k (x / 2) (by rw [Nat.pow_succ] at h; omega)]
theorem pop_half {x : Nat} (h : x < 18446744073709551616) : pop x = x % 2 + pop (x / 2) := T2_half 63 x h
theorem pop_zero : pop 0 = 0 := T_zero 2 64
theorem par_lt (n : Nat) : par n < 2 := Nat.mod_lt _ (by decide)
end Go.Proofs.YtcimmgpmkfbpdaaGreatDoor.PopM
namespace Go.Proofs.YtcimmgpmkfbpdaaGreatDoor.Bits
open Go.RowKit Go.Proofs.YtcimmgpmkfbpdaaGreatDoor Go.Proofs.YtcimmgpmkfbpdaaGreatDoor.Base
set_option linter.unusedVariables false
theorem ofInt_i64 (a : Nat) (ha : a < 9223372036854775808) : (BitVec.ofInt 64 (a : Int)).toNat = a := by
 rw [BitVec.ofInt_natCast, BitVec.toNat_ofNat]; exact Nat.mod_eq_of_lt (by omega)
theorem i64_and_nat (a b : Nat) (ha : a < 9223372036854775808) (hb : b < 9223372036854775808) : bits .and .i64 (a : Int) (b : Int) = ((a &&& b : Nat) : Int) := by
 have hx : a &&& b < 2 ^ 63 := Nat.and_lt_two_pow _ (by omega)
 show IntKind.i64.wrap ((BitVec.ofInt 64 (a : Int) &&& BitVec.ofInt 64 (b : Int)).toNat : Int) = _
 rw [BitVec.toNat_and, ofInt_i64 a ha, ofInt_i64 b hb, IntKind.wrap_i64]
 omega
theorem i64_or_nat (a b : Nat) (ha : a < 9223372036854775808) (hb : b < 9223372036854775808) : bits .or .i64 (a : Int) (b : Int) = ((a ||| b : Nat) : Int) := by
 have hx : a ||| b < 2 ^ 63 := Nat.or_lt_two_pow (by omega) (by omega)
 show IntKind.i64.wrap ((BitVec.ofInt 64 (a : Int) ||| BitVec.ofInt 64 (b : Int)).toNat : Int) = _
 rw [BitVec.toNat_or, ofInt_i64 a ha, ofInt_i64 b hb, IntKind.wrap_i64]
 omega
theorem i64_xor_nat (a b : Nat) (ha : a < 9223372036854775808) (hb : b < 9223372036854775808) : bits .xor .i64 (a : Int) (b : Int) = ((a ^^^ b : Nat) : Int) := by
 have hx : a ^^^ b < 2 ^ 63 := Nat.xor_lt_two_pow (by omega) (by omega)
 show IntKind.i64.wrap ((BitVec.ofInt 64 (a : Int) ^^^ BitVec.ofInt 64 (b : Int)).toNat : Int) = _
 rw [BitVec.toNat_xor, ofInt_i64 a ha, ofInt_i64 b hb, IntKind.wrap_i64]
 omega
theorem w1 (n : Nat) (hn : n < 18446744073709551616) (h : PopM.S1 n < 18446744073709551616) : IntKind.u64.wrap (bits .and .u64 ((n : Int) / 2) 6148914691236517205 + bits .and .u64 (n : Int) 6148914691236517205) = ((PopM.S1 n : Nat) : Int) := by
 have a := u64_and_nat (n / 2) 6148914691236517205 (by omega) (by omega)
 have b := u64_and_nat n 6148914691236517205 hn (by omega)
 rw [show ((n : Int) / 2) = ((n / 2 : Nat) : Int) by omega]
 rw [show (6148914691236517205 : Int) = ((6148914691236517205 : Nat) : Int) from rfl, a, b, IntKind.wrap_u64]
 unfold PopM.S1 at *
 omega
theorem w2 (n : Nat) (hn : n < 18446744073709551616) (h : PopM.S2 n < 7378697629483820647) : IntKind.u64.wrap (bits .and .u64 ((n : Int) / 4) 3689348814741910323 + bits .and .u64 (n : Int) 3689348814741910323) = ((PopM.S2 n : Nat) : Int) := by
 have a := u64_and_nat (n / 4) 3689348814741910323 (by omega) (by omega)
 have b := u64_and_nat n 3689348814741910323 hn (by omega)
 rw [show ((n : Int) / 4) = ((n / 4 : Nat) : Int) by omega]
 rw [show (3689348814741910323 : Int) = ((3689348814741910323 : Nat) : Int) from rfl, a, b, IntKind.wrap_u64]
 unfold PopM.S2 at *
 omega
theorem w3 (n : Nat) (hn : n < 7378697629483820647) : bits .and .u64 (IntKind.u64.wrap ((n : Int) / 16 + (n : Int))) 1085102592571150095 = ((PopM.S3 n : Nat) : Int) := by
 have a := u64_and_nat (n / 16 + n) 1085102592571150095 (by omega) (by omega)
 have e : IntKind.u64.wrap ((n : Int) / 16 + (n : Int)) = ((n / 16 + n : Nat) : Int) := by rw [IntKind.wrap_u64]; omega
 rw [e, show (1085102592571150095 : Int) = ((1085102592571150095 : Nat) : Int) from rfl, a]
 rfl
theorem w4 (n : Nat) (hn : n < 1157442765409226769) : bits .and .i64 (wrap64 (IntKind.u64.wrap (IntKind.u64.wrap (IntKind.u64.wrap ((n : Int) + (n : Int) / 256) + IntKind.u64.wrap ((n : Int) + (n : Int) / 256) / 65536) + IntKind.u64.wrap (IntKind.u64.wrap ((n : Int) + (n : Int) / 256) + IntKind.u64.wrap ((n : Int) + (n : Int) / 256) / 65536) / 4294967296))) 127 =
  (((n + n / 256 + (n + n / 256) / 65536 + (n + n / 256 + (n + n / 256) / 65536) / 4294967296) % 128 : Nat) : Int) := by
 have e1 : IntKind.u64.wrap ((n : Int) + (n : Int) / 256) = ((n + n / 256 : Nat) : Int) := by rw [IntKind.wrap_u64]; omega
 rw [e1]
 have hx : n + n / 256 < 1161964026368821562 := by omega
 generalize n + n / 256 = x at *
 have e2 : IntKind.u64.wrap ((x : Int) + (x : Int) / 65536) = ((x + x / 65536 : Nat) : Int) := by rw [IntKind.wrap_u64]; omega
 rw [e2]
 have hy : x + x / 65536 < 1161981756664180000 := by omega
 generalize x + x / 65536 = y at *
 have e3 : IntKind.u64.wrap ((y : Int) + (y : Int) / 4294967296) = ((y + y / 4294967296 : Nat) : Int) := by rw [IntKind.wrap_u64]; omega
 have hz : y + y / 4294967296 < 1161981757000000000 := by omega
 rw [e3]
 generalize y + y / 4294967296 = z at *
 have e4 : wrap64 (z : Int) = (z : Int) := by simp only [wrap64]; omega
 rw [e4, show (127 : Int) = ((127 : Nat) : Int) from rfl, i64_and_nat z 127 (by omega) (by omega), nat_mask7]
theorem ones_any (n : Nat) (hn : n < 18446744073709551616) (w : World) :
  Calls Tryz.prog 118 #[.int .u64 n] w fun e w' => e = .returned (.int .i64 (PopM.pop n : Nat)) ∧ w = w' := by
 obtain ⟨p0, p1, p2, p3, p4⟩ := PopM.pop_le hn
 have H1 := Lib.hid (w1 n hn p1)
 have H2 := Lib.hid (w2 (PopM.S1 n) p1 p2)
 have H3 := Lib.hid (w3 (PopM.S2 (PopM.S1 n)) p2)
 have H4 := Lib.hid (w4 (PopM.S3 (PopM.S2 (PopM.S1 n))) p3)
 have H5 := Lib.hid p4
 clear p0 p1 p2 p3 p4
 go_enter Tryz.func118, Tryz.ntmps118
 go_wp2
 go_ret
 refine ⟨ret_int ?_, rfl⟩
 rw [H1.out, H2.out, H3.out, H4.out, H5.out]
theorem and1 (x : Nat) (h : x < 9223372036854775808) : bits .and .i64 (x : Int) 1 = ((x % 2 : Nat) : Int) := by
 have := i64_and_nat x 1 h (by omega)
 rw [nat_mask1] at this
 exact this
theorem parity_any (n : Nat) (hn : n < 9223372036854775808) (w : World) :
  Calls Tryz.prog 89 #[.int .i64 n] w fun e w' => e = .returned (.int .i64 (PopM.par n : Nat)) ∧ w = w' := by
 have hp := (PopM.pop_le (n := n) (by omega)).1
 have H := Lib.hid (and1 (PopM.pop n) (by omega))
 go_enter Tryz.func89, Tryz.ntmps89
 go_wp2_with fail
 refine (ones_any n (by omega) _).mono ?_; rintro e w' ⟨rfl, rfl⟩
 go_wp2
 go_ret
 exact ⟨ret_int H.out, rfl⟩
theorem parity_q (n : Nat) (hn : n < 9223372036854775808) (w : World) :
  Calls Tryz.prog 89 #[.int .i64 n] w fun e w' => e = .returned (.int .i64 (PopM.par n : Nat)) ∧ w' = w :=
 (parity_any n hn w).mono fun _ _ h => ⟨h.1, h.2.symm⟩
set_option maxHeartbeats 400000 in
theorem l02Parity_any (n : Nat) (hn : n < 9223372036854775808) (w : World) :
  Calls Tryz.prog 78 #[.int .i64 n] w fun e w' => e = .returned (.int .i64 (PopM.par n : Nat)) ∧ w = w' := by
 go_enter Tryz.func78, Tryz.ntmps78
 go_wp2
 go_loop [0, 3] (fun x p => ∃ m q : Nat, m < 9223372036854775808 ∧ q < 2 ∧ (q + PopM.pop m) % 2 = PopM.par n ∧ x = .int .i64 m ∧ p = .int .i64 q) (fun x _ => (intOf x).toNat)
 case atStart => exact ⟨n, 0, hn, by omega, by simp [PopM.par], rfl, rfl⟩
 case round =>
  obtain ⟨m, q, hm, hq, he, rfl, rfl⟩ := hrel
  have HE := Lib.hid he; clear he
  by_cases h0 : 0 < m
  ·have h1 := Lib.hid (and1 m hm)
   have h2 := Lib.hid (i64_xor_nat q (m % 2) (by omega) (by omega))
   have h3 := Lib.hid (PopM.xor_bit q (m % 2) hq (by omega))
   have h4 := Lib.hid (PopM.pop_half (x := m) (by omega))
   go_wp2
   go_round
   case rel => exact ⟨m / 2, (q + m % 2) % 2, by omega, by omega, by have := HE.out; rw [h4.out] at this; omega, by go_num, by rw [h1.out, h2.out, h3.out]⟩
   case measure => simp [intOf]; omega
  ·obtain rfl : m = 0 := by omega
   have H : Hid (PopM.par n = q) := by
    have := HE.out
    rw [PopM.pop_zero] at this
    show _ = _
    omega
   go_wp2
   go_ret
   exact ⟨ret_int (by rw [H.out]), rfl⟩
theorem l02Parity_q (n : Nat) (hn : n < 9223372036854775808) (w : World) :
  Calls Tryz.prog 78 #[.int .i64 n] w fun e w' => e = .returned (.int .i64 (PopM.par n : Nat)) ∧ w' = w :=
 (l02Parity_any n hn w).mono fun _ _ h => ⟨h.1, h.2.symm⟩
end Go.Proofs.YtcimmgpmkfbpdaaGreatDoor.Bits
set_option linter.unusedVariables false
namespace Go.Proofs.YtcimmgpmkfbpdaaGreatDoor.CycM
def iter (T : Nat → Nat) (x : Nat) : Nat → Nat
 | 0 => x
 | k + 1 => T (iter T x k)
theorem iter_lt {T : Nat → Nat} {M x : Nat} (hT : ∀ s, s < M → T s < M) (hx : x < M) (k : Nat) : iter T x k < M := by
 induction k with
 | zero => exact hx
 | succ k ih => exact hT _ ih
end Go.Proofs.YtcimmgpmkfbpdaaGreatDoor.CycM
namespace Go.Proofs.YtcimmgpmkfbpdaaGreatDoor.Cong
open Go.RowKit Go.Proofs.YtcimmgpmkfbpdaaGreatDoor Go.Proofs.YtcimmgpmkfbpdaaGreatDoor.Base
set_option linter.unusedVariables false
def congB (m f a : Int) : Bool := inR m 2 100000 && (inR f 0 (m - 1) && inR a 0 (m - 1))
theorem congB_true {m f a : Int} (h : congB m f a = true) : 2 ≤ m ∧ m ≤ 100000 ∧ 0 ≤ f ∧ f < m ∧ 0 ≤ a ∧ a < m := by
 simp only [congB, Bool.and_eq_true] at h
 have h1 := inR_true h.1
 have h2 := inR_true h.2.1
 have h3 := inR_true h.2.2
 omega
set_option maxHeartbeats 400000 in
theorem l03Is_any (b o : Nat) (m f a : Int) (w : World) (h0 : w.cell? ⟨b, o, none⟩ = some (.int .i64 m)) (h1 : w.cell? ⟨b, o + 1, none⟩ = some (.int .i64 f)) (h2 : w.cell? ⟨b, o + 2, none⟩ = some (.int .i64 a)) :
  Calls Tryz.prog 49 #[.pointer (some ⟨b, o, none⟩)] w fun e w' => e = .returned (.bool (congB m f a)) ∧ ∃ n, w' = w.drewN n := by
 cases hm : inR m 2 100000
 ·go_enter Tryz.func49, Tryz.ntmps49
  go_wp2
  go_quiet ((go_at_call 23; exact Calls.quiet_of_same (l00In_qb hm _)))
  go_wp2
  go_ret
  exact ⟨ret_bool (by simp [congB, hm]), _, rfl⟩
 ·obtain ⟨b1, b2⟩ := inR_true hm
  cases hf : inR f 0 (m - 1)
  ·go_enter Tryz.func49, Tryz.ntmps49
   go_wp2
   go_quiet ((go_at_call 23; (first | (with_reducible exact Calls.quiet_of_same (l00In_qb hm _)) | (with_reducible exact Calls.quiet_of_same (l00In_qb hf _)))))
   go_wp2
   go_ret
   exact ⟨ret_bool (by simp [congB, hm, hf]), _, rfl⟩
  ·cases ha : inR a 0 (m - 1)
   all_goals
    go_enter Tryz.func49, Tryz.ntmps49
    go_wp2
    go_quiet ((go_at_call 23; (first | (with_reducible exact Calls.quiet_of_same (l00In_qb hm _)) | (with_reducible exact Calls.quiet_of_same (l00In_qb hf _)) | (with_reducible exact Calls.quiet_of_same (l00In_qb ha _)))))
    go_wp2
    go_ret
    exact ⟨ret_bool (by simp [congB, hm, hf, ha]), _, rfl⟩
def stepN (m f a x : Nat) : Nat := (f * x + a) % m
theorem stepN_lt {m f a : Nat} (hm : 0 < m) (x : Nat) : stepN m f a x < m := Nat.mod_lt _ hm
theorem stepN_int (m f a x : Nat) : ((f : Int) * (x : Int) + (a : Int)) % (m : Int) = ((stepN m f a x : Nat) : Int) := by
 unfold stepN; simp
theorem prod_le {f x m : Nat} (h1 : f < m) (h2 : x < m) (h3 : m ≤ 100000) : (f : Int) * (x : Int) ≤ 10000000000 ∧ 0 ≤ (f : Int) * (x : Int) := by
 have h : f * x ≤ 100000 * 100000 := Nat.mul_le_mul (by omega) (by omega)
 have e : ((f * x : Nat) : Int) = (f : Int) * (x : Int) := by simp
 rw [← e]; omega
theorem l03Step_any (b o m f a x : Nat) (w : World) (h0 : w.cell? ⟨b, o, none⟩ = some (.int .i64 m)) (h1 : w.cell? ⟨b, o + 1, none⟩ = some (.int .i64 f)) (h2 : w.cell? ⟨b, o + 2, none⟩ = some (.int .i64 a))
  (hm : 2 ≤ m) (hm2 : m ≤ 100000) (hf : f < m) (ha : a < m) (hx : x < m) :
  Calls Tryz.prog 51 #[.pointer (some ⟨b, o, none⟩), .int .i64 x] w fun e w' => e = .returned (.int .i64 (stepN m f a x : Nat)) ∧ ∃ n, w' = w.drewN n := by
 obtain ⟨p1, p2⟩ := prod_le hf hx hm2
 have H := Lib.hid (stepN_int m f a x)
 have hm0 : ((m : Int) == 0) = false := by simp; omega
 go_enter Tryz.func51, Tryz.ntmps51
 go_wp2
 go_quiet (fail)
 go_wp2
 go_ret
 exact ⟨ret_int H.out, _, rfl⟩
end Go.Proofs.YtcimmgpmkfbpdaaGreatDoor.Cong

/- The laws' sizes and copies of lists of fractions. -/
import Derived.Test.YthagenodiofgnaaGreatMgMix05
import Derived.Test.YthagenodiofgnaaGreatMgMix06
import Derived.Test.YthagenodiofgnaaGreatMgMix04
import Derived.Test.YthagenodiofgnaaGreatMgMix00
import Derived.Deep.Slices
import Derived.Test.YthagenodiofgnaaGreatMgMix13
import Derived.Test.YthagenodiofgnaaGreatMgMix22
import Derived.Test.YthagenodiofgnaaGreatMgMix07
import Derived.Test.YthagenodiofgnaaGreatRows
import Derived.Below
import Derived.ChangeSame
import Derived.Carry
import Derived.OpenShut
import Derived.Lib.SmallJoins
namespace Go.Proofs.YthagenodiofgnaaGreat.CpyF
open Go.RowKit Go.Proofs.YthagenodiofgnaaGreat Go.Proofs.YthagenodiofgnaaGreat.Base Go.Proofs.YthagenodiofgnaaGreat.Mem Go.Proofs.YthagenodiofgnaaGreat.Cpy Go.Proofs.YthagenodiofgnaaGreat.MemF Go.Proofs.YthagenodiofgnaaGreat.WalkM
set_option linter.unusedVariables false
theorem szF_any (A : Option Addr) (n c : Nat) (k : Int) (w : World) (hn : n ≤ 9223372036854775807) (hk : 0 ≤ k) (hk2 : k ≤ 1048576) :
  Calls Tryz.prog 78 #[.slice A n c, .int .i64 k] w fun e w' => ∃ r : Int, e = .returned (.int .i64 r) ∧ (r = -1 ∨ (0 ≤ r ∧ r = k - n)) ∧ w = w' := by
 by_cases h0 : k - (n : Int) < 0
 ·go_enter Tryz.func78, Tryz.ntmps78
  go_wp2
  go_ret
  exact ⟨-1, rfl, .inl rfl, rfl⟩
 ·go_enter Tryz.func78, Tryz.ntmps78
  go_wp2
  go_ret
  exact ⟨k - n, rfl, .inr ⟨by omega, rfl⟩, rfl⟩
theorem toFr_any (a b : Int) (w : World) : Calls Tryz.prog 8 #[.agg #[.int .i64 a, .int .i64 b]] w fun e w' => e = .returned (.agg #[.int .i64 a, .int .i64 b]) ∧ Below w.heap.size w w' := by
 go_enter Tryz.func8, Tryz.ntmps8
 go_wp2
 exact bodyPost_ret (v := .agg #[.int .i64 a, .int .i64 b]) (by simp [results, Tryz.results8, go_sem]) rfl ⟨rfl, (((Below.refl _ _).alloc (Nat.le_refl _) _).alloc (by simp) _).alloc (by simp; omega) _⟩
theorem set2_half {fs : List Int} {n j : Nat} (hl : fs.length = 2 * n) (hj : j < n) (t : Nat) (ht : t < 2) :
  (ints (fs.take (2 * j + t) ++ List.replicate (2 * n - (2 * j + t)) 0)).set (2 * j + t) (.int .i64 (fs.getD (2 * j + t) 0)) = ints (fs.take (2 * j + t + 1) ++ List.replicate (2 * n - (2 * j + t + 1)) 0) := by
 have hlt : 2 * j + t < fs.length := by omega
 rw [ints_set, List.set_append_right _ _ (by rw [List.length_take]; omega), List.length_take, Nat.min_eq_left (by omega), Nat.sub_self,
  show 2 * n - (2 * j + t) = (2 * n - (2 * j + t + 1)) + 1 by omega, List.replicate_succ, List.set_cons_zero, List.take_succ_eq_append_getElem hlt, List.append_assoc]
 simp [List.getD, hlt]
def HalfF (wr : World) (B g n j : Nat) (fs : List Int) : Prop := wr.ownsRow B 34 2 (.slice (some ⟨g, 0, none⟩) n n) n (ints (fs.take (2 * j) ++ List.replicate (2 * n - 2 * j) 0))
theorem halfF_store {wr : World} {B g n j t : Nat} {fs : List Int} (h : wr.ownsRow B 34 2 (.slice (some ⟨g, 0, none⟩) n n) n (ints (fs.take (2 * j + t) ++ List.replicate (2 * n - (2 * j + t)) 0))) (hl : fs.length = 2 * n) (hj : j < n) (ht : t < 2) :
  (wr.setCell ⟨g, 2 * j + t, none⟩ (.int .i64 (fs.getD (2 * j + t) 0))).ownsRow B 34 2 (.slice (some ⟨g, 0, none⟩) n n) n (ints (fs.take (2 * j + t + 1) ++ List.replicate (2 * n - (2 * j + t + 1)) 0)) := by
 obtain ⟨h1, h2⟩ := h.stored (2 * j + t) (.int .i64 (fs.getD (2 * j + t) 0))
 rw [set2_half hl hj t ht] at h1
 exact h1
theorem halfF_next {wr : World} {B g n j : Nat} {fs : List Int} (h : HalfF wr B g n j fs) (hl : fs.length = 2 * n) (hj : j < n) : HalfF ((wr.setCell ⟨g, j * 2, none⟩ (.int .i64 (fs.getD (2 * j) 0))).setCell ⟨g, j * 2 + 1, none⟩ (.int .i64 (fs.getD (2 * j + 1) 0))) B g n (j + 1) fs := by
 have h1 := halfF_store (t := 0) h hl hj (by decide)
 have h2 := halfF_store (t := 1) h1 hl hj (by decide)
 unfold HalfF
 rw [Nat.mul_comm j 2]
 exact h2
def ToRelF (B g n : Nat) (fs : List Int) (w : World) (i : Value) (wr : World) : Prop := ∃ j : Nat, j ≤ n ∧ i = .int .i64 (j : Int) ∧ Hid (HalfF wr B g n j fs) ∧ Hid (Below B w wr)
def zero2 : Array Value := #[.int .i64 0, .int .i64 0]
theorem zero2_at : ∀ m, m < 2 → zero2[m]! = .int .i64 0
 | 0, _ => rfl
 | 1, _ => rfl
 | n + 2, h => absurd h (by omega)
theorem made2 (n : Nat) : (madeCells zero2 (n * 2)).toList = ints (List.replicate (2 * n) 0) := by
 apply List.ext_getElem?
 intro j
 rw [Nat.mul_comm n 2]
 by_cases hj : j < 2 * n
 ·have h1 := zero2_at (j % 2) (Nat.mod_lt _ (by decide))
  have h2 : zero2.size = 2 := rfl
  simp [madeCells, ints, hj, h2, h1]
 ·simp [madeCells, ints, hj]
theorem run_make2 (n : Nat) (hn : n ≤ 1048576) (w : World) : (Instr.makeSlice 41 (.int .i64 (n : Int)) (.int .i64 (n : Int))).run Tryz.prog w = .ok (.slice (some ⟨w.heap.size, 0, none⟩) n n) (w.alloc (.cells (madeCells zero2 (n * 2)) 34)) := by
 obtain ⟨i, hi, hzz⟩ := Option.map_eq_some_iff.1 infoFr
 simp only [Prod.mk.injEq] at hzz
 obtain ⟨hz, hs, hb⟩ := hzz
 have hr := run_make (P := Tryz.prog) w 41 34 i _ Tryz.underlying41 hi hz .i64 .i64 n n (by omega) (Int.le_refl _) (by rw [hb]; omega) (by omega)
 simp only [Int.toNat_natCast, hs] at hr
 exact hr
theorem halfF_start (w : World) (n : Nat) (hn : n ≤ 1048576) (fs : List Int) : HalfF (w.alloc (.cells (madeCells zero2 (n * 2)) 34)) w.heap.size w.heap.size n 0 fs := by
 have := World.ownsRow_lit (e := 34) (size := 2) (base := w.heap.size) w (madeCells zero2 (n * 2)) n (Nat.le_refl _) (by simp [maxLen]; omega) (by rw [size_madeCells])
 rw [made2] at this
 unfold HalfF
 simpa using this
set_option maxHeartbeats 1000000 in
set_option maxRecDepth 100000 in
theorem toF_any (A : Option Addr) (c B0 n : Nat) (fs : List Int) (w : World) (hx : RdF w B0 A n fs) (hB : B0 ≤ w.heap.size) (hn : n ≤ 1048576) (hl : fs.length = 2 * n) :
  Calls Tryz.prog 85 #[.slice A n c] w fun e w' => ∃ g, e = .returned (.slice (some ⟨g, 0, none⟩) n n) ∧ OwnF w' w.heap.size (.slice (some ⟨g, 0, none⟩) n n) n fs ∧ Below w.heap.size w w' := by
 have HX := Lib.hid (hx.more hB)
 have HL := Lib.hid hl
 have hmk := fun w => run_make2 n hn w
 have H0 : Hid (ToRelF w.heap.size w.heap.size n fs w (.int .i64 0) (w.alloc (.cells (madeCells zero2 (n * 2)) 34))) := Lib.hid ⟨0, Nat.zero_le _, rfl, Lib.hid (halfF_start w n hn fs), Lib.hid ((Below.refl _ _).alloc (Nat.le_refl _) _)⟩
 clear hx hl
 go_enter Tryz.func85, Tryz.ntmps85
 go_wp2
 clear hmk
 go_loopw [4] (fun i wr => ToRelF w.heap.size w.heap.size n fs w i wr) (fun i _ => n - (intOf i).toNat)
 case atStart => exact H0.out
 case round =>
  obtain ⟨j, hj, rfl, hrow, hb⟩ := hrel
  by_cases hlt : j < n
  ·obtain ⟨b, off, rfl, hbl, c0, c1⟩ := (HX.out.below hb.out (Nat.le_refl _)).at hlt
   have hcell : ∀ i, i < 2 → ∃ x : Int, wr.cell? ⟨w.heap.size, j * 2 + i, none⟩ = some (.int .i64 x) := fun i hi => by
    have hh : wr.ownsRow w.heap.size 34 2 (.slice (some ⟨w.heap.size, 0, none⟩) n n) n (ints (fs.take (2 * j) ++ List.replicate (2 * n - 2 * j) 0)) := hrow.out
    have e1 := World.ownsRow.cellAt hh (j * 2 + i) (by omega)
    rw [ints_get _ (j * 2 + i) (by have := HL.out; simp; omega)] at e1
    exact ⟨_, e1⟩
   have hfz : ∀ i, wr.frozen? ⟨w.heap.size, i, none⟩ = false := fun i => by
    have hh : wr.ownsRow w.heap.size 34 2 (.slice (some ⟨w.heap.size, 0, none⟩) n n) n (ints (fs.take (2 * j) ++ List.replicate (2 * n - 2 * j) 0)) := hrow.out
    exact hh.frozenAt i
   have HN := Lib.hid (fun w1 (h1 : Below wr.heap.size wr w1) => (show ToRelF w.heap.size w.heap.size n fs w (.int .i64 ((j : Int) + 1)) ((w1.setCell ⟨w.heap.size, j * 2, none⟩ (.int .i64 (fs.getD (2 * j) 0))).setCell ⟨w.heap.size, j * 2 + 1, none⟩ (.int .i64 (fs.getD (2 * j + 1) 0))) from ⟨j + 1, hlt, by simp, Lib.hid (halfF_next (show HalfF w1 w.heap.size w.heap.size n j fs from ownsRow_below hrow.out h1) HL.out hlt), Lib.hid (((hb.out.trans (h1.mono hb.out.size)).setCell (p := ⟨w.heap.size, j * 2, none⟩) (Nat.le_refl _) _).setCell (p := ⟨w.heap.size, j * 2 + 1, none⟩) (Nat.le_refl _) _)⟩))
   have HT := Lib.hid (fun W => toFr_any (fs.getD (2 * j) 0) (fs.getD (2 * j + 1) 0) W)
   obtain ⟨x0, y0⟩ := hcell 0 (by decide)
   have hlz : w.heap.size < wr.heap.size := block_lt_of_cell y0
   obtain ⟨x1, y1⟩ := hcell 1 (by decide)
   rw [Nat.add_zero] at y0
   have HY := Lib.hid (And.intro y0 y1)
   have HZ := Lib.hid hfz
   clear hrow hb hcell hfz y0 y1
   generalize fs.getD (2 * j) 0 = f0 at *
   generalize fs.getD (2 * j + 1) 0 = f1 at *
   go_wp2_with fail
   refine (HT.out _).mono ?_
   rintro e w1 ⟨rfl, hb1⟩
   have y0 := (hb1.cell (p := ⟨w.heap.size, j * 2, none⟩) hlz).trans HY.out.1
   have y1 := (hb1.cell (p := ⟨w.heap.size, j * 2 + 1, none⟩) hlz).trans HY.out.2
   have z0 := (hb1.frozen (p := ⟨w.heap.size, j * 2, none⟩) hlz).trans (HZ.out _)
   have z1 := (hb1.frozen (p := ⟨w.heap.size, j * 2 + 1, none⟩) hlz).trans (HZ.out _)
   have HM := Lib.hid (HN.out w1 hb1)
   clear hb1 c0 c1
   go_wp2
   go_roundw
   case rel => exact HM.out
   case measure => simp [intOf]; omega
  ·obtain rfl : j = n := by omega
   have HR : Hid (OwnF wr w.heap.size (.slice (some ⟨w.heap.size, 0, none⟩) j j) j fs) := Lib.hid (by
    have := hrow.out
    unfold HalfF at this
    rw [Nat.sub_self, List.replicate_zero, List.append_nil, List.take_of_length_le (by have := HL.out; omega)] at this
    exact this)
   have HB := Lib.hid hb.out
   clear hrow hb
   go_wp2
   go_ret
   exact ⟨w.heap.size, rfl, HR.out, HB.out⟩
end Go.Proofs.YthagenodiofgnaaGreat.CpyF
namespace Go.Proofs.YthagenodiofgnaaGreat.CpyW
open Go.RowKit Go.Proofs.YthagenodiofgnaaGreat Go.Proofs.YthagenodiofgnaaGreat.Base Go.Proofs.YthagenodiofgnaaGreat.Mem Go.Proofs.YthagenodiofgnaaGreat.Cpy Go.Proofs.YthagenodiofgnaaGreat.MemF Go.Proofs.YthagenodiofgnaaGreat.WalkM Go.Proofs.YthagenodiofgnaaGreat.CpyF Go.Proofs.YthagenodiofgnaaGreat.Blk
set_option linter.unusedVariables false
def totL (L : Nat → Nat) : Nat → Nat
 | 0 => 0
 | n + 1 => totL L n + L n
theorem le_totL {L : Nat → Nat} : ∀ {n i : Nat}, i < n → L i ≤ totL L n
 | 0, _, h => absurd h (Nat.not_lt_zero _)
 | n + 1, i, h => by
  rw [totL]
  rcases Nat.lt_or_ge i n with h1 | h1
  ·have := le_totL (L := L) h1; omega
  ·obtain rfl : i = n := by omega
   omega
def SzRetF (k : Int) (n : Nat) (L : Nat → Nat) (w : World) (e : Ending) (w' : World) : Prop := ∃ r : Int, e = .returned (.int .i64 r) ∧ (r = -1 ∨ (0 ≤ r ∧ r = k - n - totL L n)) ∧ w = w'
set_option maxHeartbeats 1000000 in
theorem szFF_any (A : Option Addr) (c B n : Nat) (k : Int) (L : Nat → Nat) (fs : Nat → List Int) (w : World) (hx : RdFF w B A n L fs) (hn : n ≤ 9223372036854775807) (hL : ∀ i, i < n → L i ≤ 9223372036854775807) (hk : 0 ≤ k) (hk2 : k ≤ 1048576) :
  Calls Tryz.prog 26 #[.slice A n c, .int .i64 k] w (SzRetF k n L w) := by
 have HN := Lib.hid hL
 have HX := Lib.hid hx
 clear hL hx
 by_cases h0 : k - (n : Int) < 0
 ·go_enter Tryz.func26, Tryz.ntmps26
  go_wp2
  go_ret
  exact ⟨-1, rfl, .inl rfl, rfl⟩
 ·go_enter Tryz.func26, Tryz.ntmps26
  go_wp2
  go_loop [1, 5] (fun q i => ∃ j : Nat, j ≤ n ∧ i = .int .i64 (j : Int) ∧ ∃ r : Int, q = .int .i64 r ∧ 0 ≤ r ∧ r ≤ 1048576 ∧ Hid (r = k - n - totL L j)) (fun _ i => n - (intOf i).toNat)
  case atStart => exact ⟨0, Nat.zero_le _, rfl, _, rfl, by omega, by omega, Lib.hid (by simp [totL])⟩
  case round =>
   obtain ⟨j, hj, rfl, r, rfl, r0, r1, hr⟩ := hrel
   by_cases hlt : j < n
   ·obtain ⟨b, off, A1, c1, rfl, _, g1, _⟩ := HX.out.at hlt
    have hs : Hid (totL L (j + 1) = totL L j + L j) := Lib.hid rfl
    have HC := Lib.hid (fun W => szF_any A1 (L j) c1 r W (HN.out j hlt) r0 r1)
    generalize L j = l at *
    go_wp2_with fail
    refine (HC.out _).mono ?_
    rintro e w' ⟨r', rfl, hr', rfl⟩
    rcases hr' with rfl | ⟨q0, q1⟩
    ·go_wp2
     go_ret
     exact ⟨-1, rfl, .inl rfl, rfl⟩
    ·have HQ : Hid (r' = k - n - totL L (j + 1)) := Lib.hid (by rw [hs.out, q1, hr.out]; simp; omega)
     have r2 : r' ≤ 1048576 := by omega
     clear q1 hs hr
     go_wp2
     go_round
     case rel => exact ⟨j + 1, by omega, by go_num, r', rfl, q0, r2, HQ⟩
     case measure => simp [intOf]; omega
   ·obtain rfl : j = n := by omega
    go_wp2
    go_ret
    exact ⟨r, rfl, .inr ⟨r0, hr.out⟩, rfl⟩
structure RowsF (w : World) (B j : Nat) (us : List Value) (L : Nat → Nat) (fs : Nat → List Int) : Prop where
 len : us.length = j
 inner : ∀ i, i < j → OwnF w B (us.getD i undef) (L i) (fs i)
 apart : ∀ i k g, i < k → k < j → (us.getD i undef).ownBlock = some g → (us.getD k undef).ownBlock ≠ some g
theorem RowsF.nil (w : World) (B : Nat) (L : Nat → Nat) (fs : Nat → List Int) : RowsF w B 0 [] L fs := ⟨rfl, fun i hi => absurd hi (Nat.not_lt_zero i), fun i j g _ hj => absurd hj (Nat.not_lt_zero j)⟩
theorem RowsF.push {wr w1 w2 : World} {B n j : Nat} {v u : Value} {us vs : List Value} {L : Nat → Nat} {fs : Nat → List Int} (h : RowsF wr B j us L fs) (h1 : Below wr.heap.size wr w1)
  (hu : OwnF w1 wr.heap.size u (L j) (fs j)) (ho : w1.ownsRow B 41 1 v n vs) (hg : w1.grownBy w2 v.ownBlock) (hB : B ≤ wr.heap.size) :
  RowsF w2 B (j + 1) (us ++ [u]) L fs := by
 have hl := h.len
 refine ⟨by simp [hl], fun i hi => ?_, fun i k g hik hk hg1 hg2 => ?_⟩
 ·rcases Nat.lt_or_ge i j with hlt | hge
  ·rw [show (us ++ [u]).getD i undef = us.getD i undef by simp [List.getD, List.getElem?_append_left (show i < us.length by omega)]]
   have hi1 := (h.inner i hlt).below h1
   exact World.ownsRow.kept hi1 hg (own_ne hi1 ho (by decide))
  ·obtain rfl : i = j := by omega
   rw [show (us ++ [u]).getD i undef = u by simp [List.getD, ← hl]]
   exact World.ownsRow.kept (ownsRow_base hu hB) hg (own_ne hu ho (by decide))
 ·have hlt : i < j := by omega
  rw [show (us ++ [u]).getD i undef = us.getD i undef by simp [List.getD, List.getElem?_append_left (show i < us.length by omega)]] at hg1
  rcases Nat.lt_or_ge k j with hk1 | hge
  ·rw [show (us ++ [u]).getD k undef = us.getD k undef by simp [List.getD, List.getElem?_append_left (show k < us.length by omega)]] at hg2
   exact h.apart i k g hik hk1 hg1 hg2
  ·obtain rfl : k = j := by omega
   rw [show (us ++ [u]).getD k undef = u by simp [List.getD, ← hl]] at hg2
   obtain ⟨_, _, _, b1⟩ := ownsRow_block (h.inner i hlt) hg1
   obtain ⟨_, _, b2, _⟩ := ownsRow_block hu hg2
   omega
structure OwnFF (w : World) (B : Nat) (v : Value) (n : Nat) (L : Nat → Nat) (fs : Nat → List Int) (us : List Value) : Prop where
 outer : w.ownsRow B 41 1 v n us
 rows : RowsF w B n us L fs
theorem OwnFF.below {w w' : World} {B n : Nat} {v : Value} {L : Nat → Nat} {fs : Nat → List Int} {us : List Value} (h : OwnFF w B v n L fs us) (hb : Below w.heap.size w w') : OwnFF w' B v n L fs us :=
 ⟨ownsRow_below h.outer hb, h.rows.len, fun i hi => (h.rows.inner i hi).below hb, h.rows.apart⟩
theorem OwnFF.above {w w' : World} {B n : Nat} {v : Value} {L : Nat → Nat} {fs : Nat → List Int} {us : List Value} (h : OwnFF w B v n L fs us) (hb : Above B w w') : OwnFF w' B v n L fs us :=
 ⟨ownsRow_above h.outer hb, h.rows.len, fun i hi => OwnF_above (h.rows.inner i hi) hb, h.rows.apart⟩
theorem OwnFF.rd {w : World} {B n c : Nat} {A : Option Addr} {L : Nat → Nat} {fs : Nat → List Int} {us : List Value} (h : OwnFF w B (.slice A n c) n L fs us) : RdFF w w.heap.size A n L fs := fun h0 => by
 obtain ⟨A', c', e, hf⟩ := ownsRow_form h.outer
 injection e with e1 e2 e3
 subst e1 e3
 obtain ⟨g, rfl, _, hlt⟩ := hf h0
 refine ⟨g, 0, rfl, hlt, fun i hi => ?_⟩
 have hi' := h.rows.inner i hi
 obtain ⟨A2, c2, e2, _⟩ := hi'.form
 rw [e2] at hi'
 refine ⟨A2, c2, ?_, hi'.rd⟩
 rw [Nat.zero_add, World.ownsRow.cellAt h.outer i (by omega), ← e2]
 have hl : i < us.length := by rw [h.rows.len]; exact hi
 simp [List.getD, hl]
def ToRelFF (B g n : Nat) (L : Nat → Nat) (fs : Nat → List Int) (w : World) (i : Value) (wr : World) : Prop :=
 ∃ (j : Nat) (us : List Value), j ≤ n ∧ i = .int .i64 (j : Int) ∧ Hid (wr.ownsRow B 41 1 (.slice (some ⟨g, 0, none⟩) n n) n (us ++ List.replicate (n - j) (.slice none 0 0))) ∧ Hid (RowsF wr B j us L fs) ∧ Hid (Below B w wr)
theorem ToRelFF.next {B g n j : Nat} {L : Nat → Nat} {fs : Nat → List Int} {us : List Value} {w wr w1 : World} {u : Value} (hj : j < n) (hg : B ≤ g)
  (ho : wr.ownsRow B 41 1 (.slice (some ⟨g, 0, none⟩) n n) n (us ++ List.replicate (n - j) (.slice none 0 0))) (hr : RowsF wr B j us L fs) (hb : Below B w wr) (hB : B ≤ wr.heap.size)
  (h1 : Below wr.heap.size wr w1) (hu : OwnF w1 wr.heap.size u (L j) (fs j)) :
  ToRelFF B g n L fs w (.int .i64 ((j : Int) + 1)) (w1.setCell ⟨g, j, none⟩ u) := by
 have ho1 := ownsRow_below ho h1
 obtain ⟨s1, s2⟩ := ho1.stored j u
 rw [us_set hr.len hj] at s1
 exact ⟨j + 1, us ++ [u], hj, by simp, Lib.hid s1, Lib.hid (hr.push h1 hu ho1 s2 hB), Lib.hid ((hb.trans (h1.mono hB)).setCell hg _)⟩
theorem infoFS : (Tryz.prog.info? 41).map (fun i => (i.zero, i.size, i.bytes)) = some (some (.slice none 0 0), 1, 24) := by kernel_rfl
set_option maxHeartbeats 1000000 in
set_option maxRecDepth 100000 in
theorem toFF_any (A : Option Addr) (c B0 n : Nat) (L : Nat → Nat) (fs : Nat → List Int) (w : World) (hx : RdFF w B0 A n L fs) (hB : B0 ≤ w.heap.size) (hn : n ≤ 1048576) (hL : ∀ i, i < n → L i ≤ 1048576) (hl : ∀ i, i < n → (fs i).length = 2 * L i) :
  Calls Tryz.prog 37 #[.slice A n c] w fun e w' => ∃ g us, e = .returned (.slice (some ⟨g, 0, none⟩) n n) ∧ OwnFF w' w.heap.size (.slice (some ⟨g, 0, none⟩) n n) n L fs us ∧ Below w.heap.size w w' := by
 have hmk := run_make_row' (P := Tryz.prog) 30 41 (.slice none 0 0) 24 Tryz.underlying30 infoFS rfl .i64 .i64 n (by omega) (by omega)
 have H0 : Hid (ToRelFF w.heap.size w.heap.size n L fs w (.int .i64 0) (w.alloc (.cells (madeCells #[.slice none 0 0] n) 41))) := Lib.hid (by
  refine ⟨0, [], Nat.zero_le _, rfl, Lib.hid ?_, Lib.hid (RowsF.nil _ _ _ _), Lib.hid ((Below.refl _ _).alloc (Nat.le_refl _) _)⟩
  have := World.ownsRow_lit (e := 41) (size := 1) (base := w.heap.size) w (madeCells #[.slice none 0 0] n) n (Nat.le_refl _) (by simp [maxLen]; omega) (by simp [size_madeCells])
  rw [toList_madeCells_one] at this
  simpa using this)
 have HX := Lib.hid (hx.more hB)
 have HL := Lib.hid (And.intro hL hl)
 clear hx hL hl
 go_enter Tryz.func37, Tryz.ntmps37
 go_wp2
 clear hmk
 go_loopw [4] (fun i wr => ToRelFF w.heap.size w.heap.size n L fs w i wr) (fun i _ => n - (intOf i).toNat)
 case atStart => exact H0.out
 case round =>
  obtain ⟨j, us, hj, rfl, hrow, hR, hb⟩ := hrel
  clear H0
  by_cases hlt : j < n
  ·obtain ⟨b, off, A1, c1, rfl, hbl, g1, r1⟩ := (HX.out.below hb.out (Nat.le_refl _)).at hlt
   have hcell := (hrow.out.cellAt j (by omega)).trans (us_get hR.out.len hlt _)
   have hfz := hrow.out.frozenAt j
   have hsz : w.heap.size < wr.heap.size := block_lt_of_cell hcell
   have hcall := Lib.hid (toF_any A1 c1 w.heap.size (L j) (fs j) wr r1 (by omega) (HL.out.1 j hlt) (HL.out.2 j hlt))
   have HN := Lib.hid (fun (w1 : World) (u : Value) => ToRelFF.next (w := w) (w1 := w1) (u := u) hlt (Nat.le_refl _) hrow.out hR.out hb.out (by omega))
   have hblt : b < wr.heap.size := by omega
   clear hrow hb hR r1
   generalize L j = l at *
   generalize fs j = ys at *
   go_wp2_with fail
   refine hcall.out.mono ?_
   rintro e w1 ⟨g, rfl, hu, h1⟩
   have e1 := (h1.cell (p := ⟨w.heap.size, j, none⟩) hsz).trans hcell
   have e2 := (h1.frozen (p := ⟨w.heap.size, j, none⟩) hsz).trans hfz
   have HM := Lib.hid (HN.out w1 _ h1 hu)
   clear h1 hu hcell hfz
   go_wp2
   go_roundw
   case rel => exact HM.out
   case measure => simp [intOf]; omega
  ·obtain rfl : j = n := by omega
   have HO : Hid (OwnFF wr w.heap.size (.slice (some ⟨w.heap.size, 0, none⟩) j j) j L fs us) := Lib.hid (by
    have hrow := hrow.out
    rw [Nat.sub_self, List.replicate_zero, List.append_nil] at hrow
    exact ⟨hrow, hR.out⟩)
   have HB := hb
   clear hrow hb hR
   go_wp2
   go_ret
   exact ⟨w.heap.size, us, rfl, HO.out, HB.out⟩
set_option maxHeartbeats 1000000 in
set_option maxRecDepth 100000 in
theorem eqFF_yes (A A' : Option Addr) (c c' B B' n : Nat) (L : Nat → Nat) (fs : Nat → List Int) (w : World) (hx : RdFF w B A n L fs) (hy : RdFF w B' A' n L fs) (hB : B ≤ w.heap.size) (hB' : B' ≤ w.heap.size) (hm : n ≤ 1099511627776) (hL : ∀ i, i < n → L i ≤ 1099511627776) :
  Calls Tryz.prog 49 #[.slice A n c, .slice A' n c'] w fun e w' => e = .returned (.bool true) ∧ Below w.heap.size w w' := by
 have HX := Lib.hid (hx.more hB)
 have HY := Lib.hid (hy.more hB')
 have HL := Lib.hid hL
 clear hx hy hL
 go_enter Tryz.func49, Tryz.ntmps49
 go_wp2
 go_loopw [5] (fun i wr => ∃ j : Nat, j ≤ n ∧ i = .int .i64 (j : Int) ∧ Hid (Below w.heap.size w wr)) (fun i _ => n - (intOf i).toNat)
 case atStart => exact ⟨0, Nat.zero_le _, rfl, Lib.hid (Below.refl _ _)⟩
 case round =>
  obtain ⟨j, hj, rfl, HB⟩ := hrel
  by_cases hlt : j < n
  ·obtain ⟨b, off, A1, c1, rfl, hbl, g1, r1⟩ := (HX.out.below HB.out (Nat.le_refl _)).at hlt
   obtain ⟨b', off', A2, c2, rfl, hbl', g2, r2⟩ := (HY.out.below HB.out (Nat.le_refl _)).at hlt
   have hsz := HB.out.size
   have HC : Hid (∀ W, Below wr.heap.size wr W → Calls Tryz.prog 95 #[.slice A1 (L j) c1, .slice A2 (L j) c2] W fun e w' => e = .returned (.bool true) ∧ Below W.heap.size W w') := Lib.hid (fun W hW => eqF_yes A1 A2 c1 c2 _ _ (L j) (fs j) W (r1.below hW hsz) (r2.below hW hsz) (Nat.le_trans hsz hW.size) (Nat.le_trans hsz hW.size) (HL.out j hlt))
   have HG := Lib.hid (And.intro g1 g2)
   have hl1 : b < wr.heap.size := Nat.lt_of_lt_of_le hbl hsz
   have hl2 : b' < wr.heap.size := Nat.lt_of_lt_of_le hbl' hsz
   clear r1 r2 g1 g2
   generalize L j = l at *
   go_wp2
   (refine wp_region_below (by kernel_rfl) (by kernel_rfl) ?_; (repeat (refine wpQuiet_step (fun K hK => ?_); go_simp; first | (refine hK _ ?_; clear hK K) | (apply Exists.intro; refine ⟨fun wq hq => ?_, hK _ ?_⟩; (first | rfl | (have c0 := (hq.cell (p := ⟨b, off + j, none⟩) hl1).trans HG.out.1; have d0 := (hq.cell (p := ⟨b', off' + j, none⟩) hl2).trans HG.out.2; first | (go_simp; done) | (go_simp; rfl) | (first | (go_at_call 95; refine (HC.out _ hq).mono ?_; rintro e w1 ⟨rfl, hb1⟩; exact ⟨rfl, Base.Below.nextA hq hb1⟩)))); clear hK K))); refine wpQuiet_nil ?_; intro wq hq)
   have HB1 := Lib.hid (Base.Below.nextA HB.out hq)
   clear hq
   go_wp2
   go_roundw
   case rel => exact ⟨j + 1, hlt, by go_num, HB1⟩
   case measure => simp [intOf]; omega
  ·obtain rfl : j = n := by omega
   go_wp2
   go_ret
   exact ⟨rfl, HB.out⟩
end Go.Proofs.YthagenodiofgnaaGreat.CpyW
namespace Go.Proofs.YthagenodiofgnaaGreat.CpyW
open Go.RowKit Go.Proofs.YthagenodiofgnaaGreat Go.Proofs.YthagenodiofgnaaGreat.Base Go.Proofs.YthagenodiofgnaaGreat.Mem Go.Proofs.YthagenodiofgnaaGreat.Cpy Go.Proofs.YthagenodiofgnaaGreat.MemF Go.Proofs.YthagenodiofgnaaGreat.WalkM Go.Proofs.YthagenodiofgnaaGreat.CpyF Go.Proofs.YthagenodiofgnaaGreat.Blk
set_option linter.unusedVariables false
def SzW (k : Int) (n : Nat) (L : Nat → Nat) (w : World) (e : Ending) (w' : World) : Prop := ∃ r : Int, e = .returned (.int .i64 r) ∧ (r = -1 ∨ (0 ≤ r ∧ r = k - n - totL L n)) ∧ Below w.heap.size w w'
set_option maxHeartbeats 1000000 in
theorem szW_any (A : Option Addr) (c B n : Nat) (k : Int) (L : Nat → Nat) (fs : Nat → List Int) (w : World) (hx : RdFF w B A n L fs) (hB : B ≤ w.heap.size) (hn : n ≤ 9223372036854775807) (hL : ∀ i, i < n → L i ≤ 9223372036854775807) (hk : 0 ≤ k) (hk2 : k ≤ 1048576) :
  Calls Tryz.prog 5 #[.agg #[.slice A n c], .int .i64 k] w (SzW k n L w) := by
 have hb0 : Below w.heap.size w (w.alloc (.cells #[.slice A n c] 24)) := (Below.refl _ _).alloc (Nat.le_refl _) _
 have HS := Lib.hid (szFF_any A c B n k L fs (w.alloc (.cells #[.slice A n c] 24)) (hx.below hb0 hB) hn hL hk hk2)
 have HB := Lib.hid hb0
 clear hx hL hb0
 go_enter Tryz.func5, Tryz.ntmps5
 go_wp2_with fail
 refine HS.out.mono ?_
 rintro e w1 ⟨r, rfl, hr, rfl⟩
 rcases hr with rfl | ⟨r0, hr⟩
 ·go_wp2
  go_ret
  exact ⟨-1, rfl, .inl rfl, HB.out⟩
 ·have HR := Lib.hid hr
  clear hr
  go_wp2
  go_ret
  exact ⟨r, rfl, .inr ⟨r0, HR.out⟩, HB.out⟩
def ToW (n : Nat) (L : Nat → Nat) (fs : Nat → List Int) (w : World) (e : Ending) (w' : World) : Prop := ∃ g us, e = .returned (.agg #[.slice (some ⟨g, 0, none⟩) n n]) ∧ OwnFF w' w.heap.size (.slice (some ⟨g, 0, none⟩) n n) n L fs us ∧ Below w.heap.size w w'
theorem OwnFF.base {w : World} {B B' n : Nat} {v : Value} {L : Nat → Nat} {fs : Nat → List Int} {us : List Value} (h : OwnFF w B v n L fs us) (hB : B' ≤ B) : OwnFF w B' v n L fs us :=
 ⟨ownsRow_base h.outer hB, h.rows.len, fun i hi => ownsRow_base (h.rows.inner i hi) hB, h.rows.apart⟩
theorem above_set {C b o : Nat} {w : World} (hb : b < C) (v : Value) : Above C w (w.setCell ⟨b, o, none⟩ v) := Above.grown (Src.grown_setCell w ⟨b, o, none⟩ v) (fun g e => by have := Option.some.inj e; show g < C; rw [← this]; exact hb)
set_option maxHeartbeats 1000000 in
theorem toW_any (A : Option Addr) (c B0 n : Nat) (L : Nat → Nat) (fs : Nat → List Int) (w : World) (hx : RdFF w B0 A n L fs) (hB : B0 ≤ w.heap.size) (hn : n ≤ 1048576) (hL : ∀ i, i < n → L i ≤ 1048576) (hl : ∀ i, i < n → (fs i).length = 2 * L i) :
  Calls Tryz.prog 7 #[.agg #[.slice A n c]] w (ToW n L fs w) := by
 obtain ⟨W3, hW3⟩ : ∃ W3, W3 = ((w.alloc (.cells #[.slice A n c] 24)).alloc (.cells #[.slice none 0 0] 32)).alloc (.cells #[.slice none 0 0] 32) := ⟨_, rfl⟩
 have hb3 : Below w.heap.size w W3 := by rw [hW3]; exact (((Below.refl _ _).alloc (Nat.le_refl _) _).alloc (by simp) _).alloc (by simp; omega) _
 have hz3 : W3.heap.size = w.heap.size + 3 := by rw [hW3]; simp
 have K1 : Hid (Blk W3 (w.heap.size + 1) 32 #[.slice none 0 0]) := Lib.hid (by rw [hW3]; exact (Blk.newAt _ _ (by simp)).alloc _)
 have K2 : Hid (Blk W3 (w.heap.size + 2) 32 #[.slice none 0 0]) := Lib.hid (by rw [hW3]; exact Blk.newAt _ _ (by simp))
 have HC := Lib.hid (toFF_any A c B0 n L fs W3 (hx.below hb3 hB) (Nat.le_trans hB hb3.size) hn hL hl)
 have HB3 := Lib.hid hb3
 have HW3 := Lib.hid hW3
 have HZ3 := Lib.hid hz3
 clear hx hL hl hb3 hW3 hz3
 go_enter Tryz.func7, Tryz.ntmps7
 go_wp2_with fail
 rw [← HW3.out]
 refine HC.out.mono ?_
 rintro e w4 ⟨g, us, rfl, ho, hb4⟩
 have k1 := K1.out.belowS hb4
 have k2 := K2.out.belowS hb4
 have hz := HZ3.out
 have hz4 := hb4.size
 have HF : Hid (ToW n L fs w (.returned (.agg #[.slice (some ⟨g, 0, none⟩) n n])) ((w4.setCell ⟨w.heap.size + 2, 0, none⟩ (.slice (some ⟨g, 0, none⟩) n n)).setCell ⟨w.heap.size + 1, 0, none⟩ (.slice (some ⟨g, 0, none⟩) n n))) := Lib.hid
  ⟨g, us, rfl, OwnFF.base ((ho.above (above_set (by omega) _)).above (above_set (by omega) _)) (by omega), ((Base.Below.nextA HB3.out hb4).setCell (p := ⟨w.heap.size + 2, 0, none⟩) (by show w.heap.size ≤ w.heap.size + 2; omega) _).setCell (p := ⟨w.heap.size + 1, 0, none⟩) (by show w.heap.size ≤ w.heap.size + 1; omega) _⟩
 have c1 := k1.at 0 (v := .slice none 0 0) rfl
 have c2 := k2.at 0 (v := .slice none 0 0) rfl
 have z1 := k1.frz 0
 have z2 := k2.frz 0
 have s1 := ((k1.other (a := ⟨w.heap.size + 2, 0, none⟩) (.slice (some ⟨g, 0, none⟩) n n) (by show w.heap.size + 2 ≠ w.heap.size + 1; omega)).setTo 0 (.slice (some ⟨g, 0, none⟩) n n) rfl).at 0 (v := .slice (some ⟨g, 0, none⟩) n n) rfl
 clear ho hb4 k1 k2 hz hz4 HC HB3 HW3 HZ3 K1 K2
 go_wp2
 refine bodyPost_ret (v := .agg #[.slice (some ⟨g, 0, none⟩) n n]) (by simp [results, Tryz.results7, go_sem, s1]) rfl ?_
 exact HF.out
set_option maxHeartbeats 1000000 in
theorem eqW_yes (A A' : Option Addr) (c c' B B' n : Nat) (L : Nat → Nat) (fs : Nat → List Int) (w : World) (hx : RdFF w B A n L fs) (hy : RdFF w B' A' n L fs) (hB : B ≤ w.heap.size) (hB' : B' ≤ w.heap.size) (hm : n ≤ 1099511627776) (hL : ∀ i, i < n → L i ≤ 1099511627776) :
  Calls Tryz.prog 10 #[.agg #[.slice A n c], .agg #[.slice A' n c']] w fun e w' => e = .returned (.bool true) ∧ Below w.heap.size w w' := by
 obtain ⟨W2, hW2⟩ : ∃ W2, W2 = (w.alloc (.cells #[.slice A n c] 32)).alloc (.cells #[.slice A' n c'] 32) := ⟨_, rfl⟩
 have hb2 : Below w.heap.size w W2 := by rw [hW2]; exact ((Below.refl _ _).alloc (Nat.le_refl _) _).alloc (by simp) _
 have HC := Lib.hid (eqFF_yes A A' c c' B B' n L fs W2 (hx.below hb2 hB) (hy.below hb2 hB') (Nat.le_trans hB hb2.size) (Nat.le_trans hB' hb2.size) hm hL)
 have HB := Lib.hid hb2
 have HW := Lib.hid hW2
 clear hx hy hL hb2 hW2
 go_enter Tryz.func10, Tryz.ntmps10
 go_wp2_with fail
 rw [← HW.out]
 refine HC.out.mono ?_
 rintro e w1 ⟨rfl, hb1⟩
 have HB1 := Lib.hid (Base.Below.nextA HB.out hb1)
 clear hb1
 go_wp2
 go_ret
 exact ⟨rfl, HB1.out⟩
end Go.Proofs.YthagenodiofgnaaGreat.CpyW
namespace Go.Proofs.YthagenodiofgnaaGreat.Open
open Go.ChangeShapes Go.WideShapes Go.ChangeAt Go.RowKit Go.Joins Go.Proofs.YthagenodiofgnaaGreat
set_option linter.unusedVariables false
set_option maxRecDepth 100000
section
variable {H : Type} {enc : TypeId × Value → H} {w : World} {base b0 : Nat} {spare : Nat → Bool} {held : Bool} {v : Value} {d : DataW H} {p : List MemPlace}
theorem cellsFi : Tryz.prog.cellsOf 2 = 1 := by kernel_rfl
theorem cellsFr : Tryz.prog.cellsOf 26 = 2 := by kernel_rfl
theorem frac_cells {n : Nat} {cs : List Value} {x : DataW H × List MemPlace} (h : DataW.trod enc Tryz.prog w base spare held n 26 cs = some x) : ∃ a b : Int, cs = [.int .i64 a, .int .i64 b] := by
 obtain ⟨xs, n', _, _, hl, hlen, hg⟩ := DataW.trod_struct Tryz.underlying26 h
 obtain ⟨a, e0⟩ := field_int hlen hg 0 _ rfl rfl
 obtain ⟨b, e1⟩ := field_int hlen hg 1 _ rfl rfl
 rw [cellsFr] at hl
 match cs, hl with
 | [c0, c1], _ =>
  simp [cellsFi] at e0 e1
  exact ⟨a, b, by rw [e0, e1]⟩
structure IsFracs (w : World) (v : Value) : Prop where
 ex : ∃ (A : Option Addr) (n c : Nat) (fs : List Int), v = .slice A n c ∧ n ≤ 9223372036854775807 ∧ fs.length = 2 * n ∧ MemF.RdF w w.heap.size A n fs
theorem fracs_of {fuel : Nat} {c0 : Value} {y : DataW H × List MemPlace} (hf : DataW.trod enc Tryz.prog w base (fun _ => true) held fuel 120 [c0] = some y) : IsFracs w c0 := by
 rcases Go.Deep.open_slice Tryz.underlying120 hf with ⟨hcs, _⟩ | ⟨x, len, cap, m, n, D, Pl, hcs, _, hl, hm, hmm, _, hx⟩
 ·simp at hcs
  subst hcs
  exact ⟨none, 0, 0, [], rfl, by decide, rfl, fun h => absurd h (by simp)⟩
 ·simp at hcs
  subst hcs
  simp only [if_true] at hmm
  unfold maxLen at hm
  have hs2 : 0 < m → x.spot = none := fun h0 => by
   obtain ⟨cs', h1, h2⟩ := hx 0 h0
   rw [cellsFr] at h1
   obtain ⟨a, b, rfl⟩ := frac_cells h2
   have h3 := (World.cells?_some h1).2.2 0 (by decide)
   have e : (x.add (0 * 2)).add 0 = x := by simp [Addr.add]
   rw [e] at h3
   exact World.cell?_spot h3
  have each : ∀ i, i < m → ∃ l : List Int, l.length = 2 ∧ ∀ j, j < 2 → w.cell? (x.add (i * 2 + j)) = some (.int .i64 (l.getD j 0)) := fun i hi => by
   obtain ⟨cs', h1, h2⟩ := hx i hi
   rw [cellsFr] at h1
   obtain ⟨a, b, rfl⟩ := frac_cells h2
   obtain ⟨_, _, h3⟩ := World.cells?_some h1
   refine ⟨[a, b], rfl, fun j hj => ?_⟩
   have hs2 := hs2 (by omega)
   have h4 := h3 j hj
   rw [addr_add hs2] at h4
   rw [addr_add (a := ⟨x.block, x.off + i * 2, none⟩) rfl] at h4
   rw [addr_add hs2, ← Nat.add_assoc, h4]
   match j, hj with
   | 0, _ => rfl
   | 1, _ => rfl
   | j + 2, hj => exact absurd hj (by omega)
  obtain ⟨L, hL⟩ := Go.Deep.choose_lt each
  have hlen : ((List.range (2 * len)).map fun k => (L (k / 2)).getD (k % 2) 0).length = 2 * len := by simp
  refine ⟨some x, len, cap, (List.range (2 * len)).map fun k => (L (k / 2)).getD (k % 2) 0, rfl, by omega, hlen, fun h0 => ?_⟩
  have h00 := (hL 0 (by omega)).2 0 (by decide)
  rw [Nat.zero_mul, Nat.zero_add] at h00
  obtain ⟨hs, hb⟩ := spot_of h00
  refine ⟨x.block, x.off, by cases x; simp_all, hb, fun i hi => ?_⟩
  have h5 := (hL (i / 2) (by omega)).2 (i % 2) (Nat.mod_lt _ (by decide))
  rw [Nat.mul_comm, Nat.div_add_mod] at h5
  rw [← addr_add hs, h5]
  simp [List.getD, hi]
end
end Go.Proofs.YthagenodiofgnaaGreat.Open
namespace Go.Proofs.YthagenodiofgnaaGreat.Open
open Go.ChangeShapes Go.WideShapes Go.ChangeAt Go.RowKit Go.Joins Go.Proofs.YthagenodiofgnaaGreat
set_option linter.unusedVariables false
set_option maxRecDepth 100000
section
variable {H : Type} {enc : TypeId × Value → H} {w : World} {base b0 : Nat} {spare : Nat → Bool} {held : Bool} {v : Value} {d : DataW H} {p : List MemPlace}
theorem cellsFS : Tryz.prog.cellsOf 120 = 1 := by kernel_rfl
structure IsFracss (w : World) (v : Value) : Prop where
 ex : ∃ (A : Option Addr) (n c : Nat) (L : Nat → Nat) (fs : Nat → List Int), v = .slice A n c ∧ n ≤ 9223372036854775807 ∧ (∀ i, i < n → L i ≤ 9223372036854775807 ∧ (fs i).length = 2 * L i) ∧ WalkM.RdFF w w.heap.size A n L fs
theorem fracss_of {fuel : Nat} {c0 : Value} {y : DataW H × List MemPlace} (hf : DataW.trod enc Tryz.prog w base (fun _ => true) held fuel 22 [c0] = some y) : IsFracss w c0 := by
 rcases Go.Deep.open_slice Tryz.underlying22 hf with ⟨hcs, _⟩ | ⟨x, len, cap, m, n, D, Pl, hcs, _, hl, hm, hmm, _, hx⟩
 ·simp at hcs
  subst hcs
  exact ⟨none, 0, 0, fun _ => 0, fun _ => [], rfl, by decide, fun i hi => absurd hi (Nat.not_lt_zero i), fun h => absurd h (by simp)⟩
 ·simp at hcs
  subst hcs
  simp only [if_true] at hmm
  unfold maxLen at hm
  have each : ∀ i, i < m → ∃ u : Option Addr × Nat × Nat × List Int, w.cell? (x.add i) = some (.slice u.1 u.2.1 u.2.2.1) ∧ u.2.1 ≤ 9223372036854775807 ∧ u.2.2.2.length = 2 * u.2.1 ∧ MemF.RdF w w.heap.size u.1 u.2.1 u.2.2.2 := fun i hi => by
   obtain ⟨cs', h1, h2⟩ := hx i hi
   rw [cellsFS] at h1
   obtain ⟨hlen, _, h3⟩ := World.cells?_some h1
   match cs', hlen with
   | [c1], _ =>
    obtain ⟨A, n', c', fs, rfl, h4, h5, h6⟩ := (fracs_of h2).ex
    have h7 := h3 0 (by decide)
    rw [Nat.mul_one] at h7
    have e : (x.add i).add 0 = x.add i := by
     unfold Addr.add
     split <;> simp_all
    rw [e] at h7
    exact ⟨(A, n', c', fs), h7, h4, h5, h6⟩
  obtain ⟨U, hU⟩ := Go.Deep.choose_lt each
  refine ⟨some x, len, cap, fun i => (U i).2.1, fun i => (U i).2.2.2, rfl, by omega, fun i hi => ⟨(hU i (by omega)).2.1, (hU i (by omega)).2.2.1⟩, fun h0 => ?_⟩
  obtain ⟨hs, hb⟩ := spot_of (hU 0 (by omega)).1
  refine ⟨x.block, x.off, by cases x; simp_all, hb, fun i hi => ?_⟩
  obtain ⟨k1, _, _, k4⟩ := hU i (by omega)
  exact ⟨(U i).1, (U i).2.2.1, by rw [← addr_add hs]; exact k1, k4⟩
theorem cellsWalk : Tryz.prog.cellsOf 24 = 1 := by kernel_rfl
structure IsWalk (w : World) (v : Value) : Prop where
 ex : ∃ (A : Option Addr) (n c : Nat) (L : Nat → Nat) (fs : Nat → List Int), v = .agg #[.slice A n c] ∧ n ≤ 9223372036854775807 ∧ (∀ i, i < n → L i ≤ 9223372036854775807 ∧ (fs i).length = 2 * L i) ∧ WalkM.RdFF w w.heap.size A n L fs
theorem walk (hv : Value.okWide Tryz.prog w .any b0 24 v) (h : DataW.Trod enc Tryz.prog w base (fun _ => true) held 24 v d p) : IsWalk w v := by
 obtain ⟨⟨cs⟩, rfl, hsz⟩ := okWide_struct Tryz.underlying24 hv
 obtain ⟨fuel, hf⟩ := h
 have hf' : DataW.trod enc Tryz.prog w base (fun _ => true) held fuel 24 cs = some (d, p) := by simpa [Value.cells] using hf
 obtain ⟨xs, n', _, _, hl, hlen, hg⟩ := DataW.trod_struct Tryz.underlying24 hf'
 have h1 := hg 0 _ rfl
 have l1 : 0 < xs.length := by rw [hlen]; decide
 rw [List.getElem?_eq_getElem l1] at h1
 rw [cellsWalk] at hl
 match cs, hl with
 | [c0], _ =>
  have h2 : DataW.trod enc Tryz.prog w base (fun _ => true) held n' 22 [c0] = some xs[0] := h1
  obtain ⟨A, n, c, L, fs, rfl, k⟩ := (fracss_of h2).ex
  exact ⟨A, n, c, L, fs, rfl, k⟩
end
end Go.Proofs.YthagenodiofgnaaGreat.Open
namespace Go.Proofs.YthagenodiofgnaaGreat.Open
open Go.ChangeShapes Go.WideShapes Go.ChangeAt Go.RowKit Go.Joins Go.Proofs.YthagenodiofgnaaGreat
set_option linter.unusedVariables false
set_option maxRecDepth 100000
section
variable {H : Type} {enc : TypeId × Value → H} {w : World} {base b0 : Nat} {spare : Nat → Bool} {held : Bool} {v : Value} {d : DataW H} {p : List MemPlace}
theorem cellsFrac : Tryz.prog.cellsOf 26 = 2 := by kernel_rfl
theorem s2_frac (hv : Value.okWide Tryz.prog w .any b0 26 v) (h : DataW.Trod enc Tryz.prog w base spare held 26 v d p) : ∃ a b : Int, v = .agg #[.int .i64 a, .int .i64 b] := by
 obtain ⟨c0, c1, y0, y1, m, rfl, _, _, hy0, hy1⟩ := open_agg2 Tryz.underlying26 (by kernel_rfl) cellsFrac hv h
 obtain ⟨a, e0, _, wa⟩ := DataW.trod_int Tryz.underlying2 hy0
 obtain ⟨b, e1, _, wb⟩ := DataW.trod_int Tryz.underlying2 hy1
 simp at e0 e1
 subst e0 e1
 exact ⟨a, b, rfl⟩
end
end Go.Proofs.YthagenodiofgnaaGreat.Open
namespace Go.Proofs.YthagenodiofgnaaGreat.MixL
open Go.RowKit Go.Proofs.YthagenodiofgnaaGreat Go.Proofs.YthagenodiofgnaaGreat.Base Go.Proofs.YthagenodiofgnaaGreat.Mem Go.Proofs.YthagenodiofgnaaGreat.MemF Go.Proofs.YthagenodiofgnaaGreat.ChM Go.Proofs.YthagenodiofgnaaGreat.GiveM Go.Proofs.YthagenodiofgnaaGreat.Ratio Go.Proofs.YthagenodiofgnaaGreat.Cpy
set_option linter.unusedVariables false
def WalkCp (n : Nat) (L : Nat → Nat) (fs : Nat → List Int) (v : Value) (w : World) : Prop := ∃ g, v = .agg #[.slice (some ⟨g, 0, none⟩) n n] ∧ WalkM.RdFF w w.heap.size (some ⟨g, 0, none⟩) n L fs
theorem walkCp_mono (n : Nat) (L : Nat → Nat) (fs : Nat → List Int) : Rel.Mono (fun v w => WalkCp n L fs v w) := fun v w w' h hb => by
 obtain ⟨g, e, hr⟩ := h
 exact ⟨g, e, (hr.below hb (Nat.le_refl _)).more hb.size⟩
set_option maxHeartbeats 4000000 in
set_option maxRecDepth 100000 in
theorem exactMix_any (A0 : Option Addr) (c0 : Nat) (n : Nat) (L : Nat → Nat) (fs : Nat → List Int) (x y : Int) (w : World) (hl0 : n ≤ 9223372036854775807) (hL : ∀ i, i < n → L i ≤ 9223372036854775807 ∧ (fs i).length = 2 * L i) (hx0 : WalkM.RdFF w w.heap.size A0 n L fs) :
  Calls Tryz.prog 3 #[.agg #[.slice A0 n c0], .agg #[.int .i64 x, .int .i64 y]] w fun e w' => e = .returned (.bool true) ∧ Below w.heap.size w w' := by
 obtain ⟨W0, hW0⟩ : ∃ W0, W0 = (w.alloc (.cells #[.slice A0 n c0] 24)).alloc (.cells #[.int .i64 x, .int .i64 y] 26) := ⟨_, rfl⟩
 have hb0 : Below w.heap.size w W0 := by rw [hW0]; exact ((Below.refl _ _).alloc (Nat.le_refl _) _).alloc (by simp) _
 have k0 : Blk.Blk W0 w.heap.size 24 #[.slice A0 n c0] := by rw [hW0]; exact (Blk.Blk.new _ _ _).alloc _
 have k1 : Blk.Blk W0 (w.heap.size + 1) 26 #[.int .i64 x, .int .i64 y] := by rw [hW0]; exact Blk.Blk.newAt _ _ (by simp)
 have hw0 := k0.lt
 have HX0 := Lib.hid (hx0.below hb0 (Nat.le_refl _))
 have K_W0 := Lib.hid k0
 have F_W0 := Lib.hid k1
 have B_W0 := Lib.hid hb0
 have HV_W0 := Lib.hid hW0
 have HLW := Lib.hid hL
 have P_W0 := Lib.hid (Below.refl W0.heap.size W0)
 clear hW0 hb0 k0 k1 hL hx0
 have HSZ0 := Lib.hid (fun k (hk : 0 ≤ k) (hk2 : k ≤ 1048576) => CpyW.szW_any A0 c0 w.heap.size n k L fs W0 HX0.out (Nat.le_of_lt hw0) hl0 (fun i hi => (HLW.out i hi).1) hk hk2)
 go_enter Tryz.func3, Tryz.ntmps3
 go_wp2_with fail
 rw [← HV_W0.out]
 refine (HSZ0.out 1048576 (by omega) (by omega)).mono ?_
 rintro e w1 ⟨r0, rfl, hr0, b_w1⟩
 have B_w1 := Lib.hid (Base.Below.nextA B_W0.out b_w1)
 have P_w1 := Lib.hid (Base.Below.nextA P_W0.out b_w1)
 have K_w1 := Lib.hid (K_W0.out.belowS b_w1)
 have F_w1 := Lib.hid (F_W0.out.belowS b_w1)
 have hs_w1 := (b_w1).size
 clear B_W0 P_W0 K_W0 F_W0
 clear b_w1
 rcases hr0 with rfl | ⟨hr0a, hr0b⟩
 ·go_wp2
  go_ret
  exact ⟨rfl, B_w1.out⟩
 have hb0 : n ≤ 1048576 := by omega
 have ht0 : CpyW.totL L n ≤ 1048576 := by omega
 have hr0c : r0 ≤ 1048576 := by omega
 have HLL := Lib.hid (fun i (hi : i < n) => Nat.le_trans (CpyW.le_totL (L := L) hi) ht0)
 clear hr0b
 have CT0 := Lib.hid (fun (W : World) (hP : Below W0.heap.size W0 W) => CpyW.toW_any A0 c0 w.heap.size n L fs W (HX0.out.below hP (Nat.le_of_lt hw0)) (Nat.le_trans (Nat.le_of_lt hw0) hP.size) hb0 HLL.out (fun i hi => (HLW.out i hi).2))
 have HS := Lib.hid (fun (A : Option Addr) (c : Nat) (B : Nat) (W : World) (hx : WalkM.RdFF W B A n L fs) (hB : B ≤ W.heap.size) => ComS.mixS_any (L := L) (fs := fs) (c := c) (A := A) (x := x) (y := y) W hx hB HLL.out (fun i hi => (HLW.out i hi).2) hb0)
 have HI := Lib.hid (fun (A : Option Addr) (c : Nat) (B : Nat) (W : World) (hx : WalkM.RdFF W B A n L fs) (hB : B ≤ W.heap.size) => mixI_any (L := L) (fs := fs) (c := c) (A := A) (x := x) (y := y) W hx hB HLL.out hb0)
 generalize mxQ n L fs x y = Q at *
 generalize mxO n L fs x y = ok at *
 have hok : (ok != ok) = false := by simp
 have hqq : (Q != Q) = false := by simp
 go_wp2
 have KW := K_w1
 have KF := F_w1
 have HPP := P_w1
 refine Rel.wp_region_rel 9 (by kernel_rfl) (by kernel_rfl) (fun F hF => ?_)
 simp only [List.take_succ_cons, List.take_zero, List.drop_succ_cons, List.drop_zero, Rel.putL] at hF ⊢
 have HF := Lib.hid hF
 clear hF
 have uv := @Rel.upon_value Tryz.prog
 have ue := @Rel.upon_enter Tryz.prog
 apply Rel.rel_pure
 apply Exists.intro
 refine ⟨fun vs wq hq hdp R hR => ?_, ?_⟩
 ·(rw [HF.out, Rel.stepAt_eq]; clear hdp; have y0 := (KW.out.belowS hq).at 0 (v := .slice A0 n c0) rfl; go_simp; exact hR)
 refine Rel.rel_law (S := fun v w' => WalkCp n L fs v w') (walkCp_mono _ _ _) (fun vs wq hq hdp => ?_) ?_
 ·(rw [HF.out, Rel.stepAt_eq]; have qd0 : vs 0 = _ := Rel.dep hdp 0 (by kernel_rfl); clear hdp; skip; go_simp; refine (CT0.out wq (Base.Below.nextA HPP.out hq)).mono ?_; rintro e w7 ⟨g, us, rfl, ho, hb⟩; exact ⟨_, rfl, ⟨g, rfl, ho.rd⟩, hb⟩)
 apply Rel.rel_pure
 apply Exists.intro
 refine ⟨fun vs wq hq hdp R hR => ?_, ?_⟩
 ·(rw [HF.out, Rel.stepAt_eq]; clear hdp; have y1 := (KF.out.belowS hq).at 0 (v := .int .i64 x) rfl; have y2 := (KF.out.belowS hq).at 1 (v := .int .i64 y) rfl; go_simp; exact hR)
 apply Rel.rel_same
 apply Exists.intro
 refine ⟨fun vs wq hq hdp => ?_, ?_⟩
 ·(rw [HF.out, Rel.stepAt_eq]; have qd2 : vs 2 = _ := Rel.dep hdp 2 (by kernel_rfl); clear hdp; skip; go_simp; refine (CpyF.toFr_any x y wq).mono ?_; rintro e w7 ⟨rfl, hb⟩; exact ⟨_, rfl, rfl, hb⟩)
 apply Rel.rel_same
 apply Exists.intro
 refine ⟨fun vs wq hq hdp => ?_, ?_⟩
 ·(rw [HF.out, Rel.stepAt_eq]; have qd1 : WalkCp _ _ _ (vs 1) wq := Rel.dep hdp 1 (by kernel_rfl); have qd3 : vs 3 = _ := Rel.dep hdp 3 (by kernel_rfl); clear hdp; obtain ⟨gc, ev, hrd⟩ := qd1; go_simp; refine (HS.out _ _ wq.heap.size wq hrd (Nat.le_refl _)).mono ?_; rintro e w7 ⟨rfl, hb⟩; exact ⟨_, rfl, rfl, hb⟩)
 apply Rel.rel_pure
 apply Exists.intro
 refine ⟨fun vs wq hq hdp R hR => ?_, ?_⟩
 ·(rw [HF.out, Rel.stepAt_eq]; have qd4 : vs 4 = _ := Rel.dep hdp 4 (by kernel_rfl); clear hdp; skip; go_simp; exact hR)
 apply Rel.rel_pure
 apply Exists.intro
 refine ⟨fun vs wq hq hdp R hR => ?_, ?_⟩
 ·(rw [HF.out, Rel.stepAt_eq]; have qd5 : vs 5 = _ := Rel.dep hdp 5 (by kernel_rfl); clear hdp; skip; go_simp; exact hR)
 apply Rel.rel_pure
 apply Exists.intro
 refine ⟨fun vs wq hq hdp R hR => ?_, ?_⟩
 ·(rw [HF.out, Rel.stepAt_eq]; have qd5 : vs 5 = _ := Rel.dep hdp 5 (by kernel_rfl); clear hdp; skip; go_simp; exact hR)
 apply Rel.rel_pure
 apply Exists.intro
 refine ⟨fun vs wq hq hdp R hR => ?_, ?_⟩
 ·(rw [HF.out, Rel.stepAt_eq]; have qd6 : vs 6 = _ := Rel.dep hdp 6 (by kernel_rfl); clear hdp; skip; go_simp; exact hR)
 refine Rel.rel_end (fun vs w2 hq hall => ?_)
 rw [HF.out]
 have qe0 : vs 0 = _ := Rel.fin hall 0 (by decide)
 have qe1 : WalkCp _ _ _ (vs 1) w2 := Rel.fin hall 1 (by decide)
 have qe2 : vs 2 = _ := Rel.fin hall 2 (by decide)
 have qe3 : vs 3 = _ := Rel.fin hall 3 (by decide)
 have qe4 : vs 4 = _ := Rel.fin hall 4 (by decide)
 have qe5 : vs 5 = _ := Rel.fin hall 5 (by decide)
 have qe6 : vs 6 = _ := Rel.fin hall 6 (by decide)
 have qe7 : vs 7 = _ := Rel.fin hall 7 (by decide)
 have qe8 : vs 8 = _ := Rel.fin hall 8 (by decide)
 clear hall HF uv ue
 clear KW KF HPP
 rw [show vs (0 + 1 + 1 + 1 + 1 + 1 + 1 + 1) = .bool ok from qe7, show vs (0 + 1 + 1 + 1 + 1 + 1 + 1 + 1 + 1) = .int .i64 Q from qe8]
 have B_w2 := Lib.hid (Base.Below.nextA B_w1.out hq)
 have P_w2 := Lib.hid (Base.Below.nextA P_w1.out hq)
 have K_w2 := Lib.hid (K_w1.out.belowS hq)
 have F_w2 := Lib.hid (F_w1.out.belowS hq)
 have hs_w2 := (hq).size
 clear B_w1 P_w1 K_w1 F_w1 hq
 have ld0 := K_w2.out.at 0 (v := .slice A0 n c0) rfl
 go_wp2_with fail
 clear ld0 qe0 qe1 qe2 qe3 qe4 qe5 qe6 qe7 qe8
 refine (CT0.out _ P_w2.out).mono ?_
 rintro e w4 ⟨g_x0, us_x0, rfl, o_x0, b_w4⟩
 have B_w4 := Lib.hid (Base.Below.nextA B_w2.out b_w4)
 have P_w4 := Lib.hid (Base.Below.nextA P_w2.out b_w4)
 have K_w4 := Lib.hid (K_w2.out.belowS b_w4)
 have F_w4 := Lib.hid (F_w2.out.belowS b_w4)
 have hs_w4 := (b_w4).size
 clear B_w2 P_w2 K_w2 F_w2
 have x0 := Lib.hid o_x0
 clear b_w4 o_x0
 obtain ⟨w5, hw5⟩ : ∃ V, V = w4.alloc (.cells #[.slice (some ⟨g_x0, 0, none⟩) n n] 32) := ⟨_, rfl⟩
 have y_w5 : Below w4.heap.size w4 w5 := by rw [hw5]; exact (Below.refl _ _).alloc (Nat.le_refl _) _
 have X_x0 : Hid (Blk.Blk w5 w4.heap.size 32 #[.slice (some ⟨g_x0, 0, none⟩) n n]) := Lib.hid (by rw [hw5]; exact Blk.Blk.new _ _ _)
 have HV_w5 := Lib.hid hw5
 have B_w5 := Lib.hid (Base.Below.nextA B_w4.out y_w5)
 have P_w5 := Lib.hid (Base.Below.nextA P_w4.out y_w5)
 have K_w5 := Lib.hid (K_w4.out.belowS y_w5)
 have F_w5 := Lib.hid (F_w4.out.belowS y_w5)
 have x0_w5 := Lib.hid (x0.out.below y_w5)
 have hs_w5 := (y_w5).size
 clear B_w4 P_w4 K_w4 F_w4
 have hx0b := X_x0.out.lt
 clear hw5 y_w5
 go_wp2
 rw [← HV_w5.out]
 have HXX := Lib.hid x0_w5.out.rd
 have KX := X_x0
 have KF := F_w5
 have HPP := P_w5
 refine Rel.wp_region_rel 8 (by kernel_rfl) (by kernel_rfl) (fun F hF => ?_)
 simp only [List.take_succ_cons, List.take_zero, List.drop_succ_cons, List.drop_zero, Rel.putL] at hF ⊢
 have HF := Lib.hid hF
 clear hF
 have uv := @Rel.upon_value Tryz.prog
 have ue := @Rel.upon_enter Tryz.prog
 apply Rel.rel_pure
 apply Exists.intro
 refine ⟨fun vs wq hq hdp R hR => ?_, ?_⟩
 ·(rw [HF.out, Rel.stepAt_eq]; clear hdp; have x0 := (KX.out.belowS hq).at 0 (v := .slice (some ⟨g_x0, 0, none⟩) n n) rfl; go_simp; exact hR)
 apply Rel.rel_pure
 apply Exists.intro
 refine ⟨fun vs wq hq hdp R hR => ?_, ?_⟩
 ·(rw [HF.out, Rel.stepAt_eq]; clear hdp; have y1 := (KF.out.belowS hq).at 0 (v := .int .i64 x) rfl; have y2 := (KF.out.belowS hq).at 1 (v := .int .i64 y) rfl; go_simp; exact hR)
 apply Rel.rel_same
 apply Exists.intro
 refine ⟨fun vs wq hq hdp => ?_, ?_⟩
 ·(rw [HF.out, Rel.stepAt_eq]; have qd1 : vs 1 = _ := Rel.dep hdp 1 (by kernel_rfl); clear hdp; skip; go_simp; refine (CpyF.toFr_any x y wq).mono ?_; rintro e w7 ⟨rfl, hb⟩; exact ⟨_, rfl, rfl, hb⟩)
 apply Rel.rel_same
 apply Exists.intro
 refine ⟨fun vs wq hq hdp => ?_, ?_⟩
 ·(rw [HF.out, Rel.stepAt_eq]; have qd0 : vs 0 = _ := Rel.dep hdp 0 (by kernel_rfl); have qd2 : vs 2 = _ := Rel.dep hdp 2 (by kernel_rfl); clear hdp; skip; go_simp; refine (HI.out _ _ w5.heap.size wq (HXX.out.below hq (Nat.le_refl _)) hq.size).mono ?_; rintro e w7 ⟨rfl, hb⟩; exact ⟨_, rfl, rfl, hb⟩)
 apply Rel.rel_pure
 apply Exists.intro
 refine ⟨fun vs wq hq hdp R hR => ?_, ?_⟩
 ·(rw [HF.out, Rel.stepAt_eq]; have qd3 : vs 3 = _ := Rel.dep hdp 3 (by kernel_rfl); clear hdp; skip; go_simp; exact hR)
 apply Rel.rel_pure
 apply Exists.intro
 refine ⟨fun vs wq hq hdp R hR => ?_, ?_⟩
 ·(rw [HF.out, Rel.stepAt_eq]; have qd4 : vs 4 = _ := Rel.dep hdp 4 (by kernel_rfl); clear hdp; skip; go_simp; exact hR)
 apply Rel.rel_pure
 apply Exists.intro
 refine ⟨fun vs wq hq hdp R hR => ?_, ?_⟩
 ·(rw [HF.out, Rel.stepAt_eq]; have qd4 : vs 4 = _ := Rel.dep hdp 4 (by kernel_rfl); clear hdp; skip; go_simp; exact hR)
 apply Rel.rel_pure
 apply Exists.intro
 refine ⟨fun vs wq hq hdp R hR => ?_, ?_⟩
 ·(rw [HF.out, Rel.stepAt_eq]; have qd5 : vs 5 = _ := Rel.dep hdp 5 (by kernel_rfl); clear hdp; skip; go_simp; exact hR)
 refine Rel.rel_end (fun vs w6 hq hall => ?_)
 rw [HF.out]
 have qe0 : vs 0 = _ := Rel.fin hall 0 (by decide)
 have qe1 : vs 1 = _ := Rel.fin hall 1 (by decide)
 have qe2 : vs 2 = _ := Rel.fin hall 2 (by decide)
 have qe3 : vs 3 = _ := Rel.fin hall 3 (by decide)
 have qe4 : vs 4 = _ := Rel.fin hall 4 (by decide)
 have qe5 : vs 5 = _ := Rel.fin hall 5 (by decide)
 have qe6 : vs 6 = _ := Rel.fin hall 6 (by decide)
 have qe7 : vs 7 = _ := Rel.fin hall 7 (by decide)
 clear hall HF uv ue
 clear HXX KX KF HPP
 rw [show vs (0 + 1 + 1 + 1 + 1 + 1 + 1) = .bool ok from qe6, show vs (0 + 1 + 1 + 1 + 1 + 1 + 1 + 1) = .int .i64 Q from qe7]
 have B_w6 := Lib.hid (Base.Below.nextA B_w5.out hq)
 have P_w6 := Lib.hid (Base.Below.nextA P_w5.out hq)
 have K_w6 := Lib.hid (K_w5.out.belowS hq)
 have x0_w6 := Lib.hid (x0_w5.out.below hq)
 have X_x0_w6 := Lib.hid (X_x0.out.belowS hq)
 have hs_w6 := (hq).size
 clear B_w5 P_w5 K_w5 F_w5 hq
 go_wp2
 clear qe0 qe1 qe2 qe3 qe4 qe5 qe6 qe7
 have HXX := Lib.hid x0_w6.out.rd
 have KX := X_x0_w6
 have KW := K_w6
 have HPP := P_w6
 refine Rel.wp_region_rel 5 (by kernel_rfl) (by kernel_rfl) (fun F hF => ?_)
 simp only [List.take_succ_cons, List.take_zero, List.drop_succ_cons, List.drop_zero, Rel.putL] at hF ⊢
 have HF := Lib.hid hF
 clear hF
 have uv := @Rel.upon_value Tryz.prog
 have ue := @Rel.upon_enter Tryz.prog
 apply Rel.rel_pure
 apply Exists.intro
 refine ⟨fun vs wq hq hdp R hR => ?_, ?_⟩
 ·(rw [HF.out, Rel.stepAt_eq]; clear hdp; have x0 := (KX.out.belowS hq).at 0 (v := .slice (some ⟨g_x0, 0, none⟩) n n) rfl; go_simp; exact hR)
 apply Rel.rel_pure
 apply Exists.intro
 refine ⟨fun vs wq hq hdp R hR => ?_, ?_⟩
 ·(rw [HF.out, Rel.stepAt_eq]; clear hdp; have y0 := (KW.out.belowS hq).at 0 (v := .slice A0 n c0) rfl; go_simp; exact hR)
 refine Rel.rel_law (S := fun v w' => WalkCp n L fs v w') (walkCp_mono _ _ _) (fun vs wq hq hdp => ?_) ?_
 ·(rw [HF.out, Rel.stepAt_eq]; have qd1 : vs 1 = _ := Rel.dep hdp 1 (by kernel_rfl); clear hdp; skip; go_simp; refine (CT0.out wq (Base.Below.nextA HPP.out hq)).mono ?_; rintro e w7 ⟨g, us, rfl, ho, hb⟩; exact ⟨_, rfl, ⟨g, rfl, ho.rd⟩, hb⟩)
 apply Rel.rel_same
 apply Exists.intro
 refine ⟨fun vs wq hq hdp => ?_, ?_⟩
 ·(rw [HF.out, Rel.stepAt_eq]; have qd0 : vs 0 = _ := Rel.dep hdp 0 (by kernel_rfl); have qd2 : WalkCp _ _ _ (vs 2) wq := Rel.dep hdp 2 (by kernel_rfl); clear hdp; obtain ⟨gc, ev, hrd⟩ := qd2; go_simp; refine (CpyW.eqW_yes _ _ _ _ _ _ n L fs wq (HXX.out.below hq (Nat.le_refl _)) hrd (hq.size) (Nat.le_refl _) (by omega) (fun i hi => Nat.le_trans (HLL.out i hi) (by decide))).mono ?_; rintro e w7 ⟨rfl, hb⟩; exact ⟨_, rfl, rfl, hb⟩)
 apply Rel.rel_pure
 apply Exists.intro
 refine ⟨fun vs wq hq hdp R hR => ?_, ?_⟩
 ·(rw [HF.out, Rel.stepAt_eq]; have qd3 : vs 3 = _ := Rel.dep hdp 3 (by kernel_rfl); clear hdp; skip; go_simp; exact hR)
 refine Rel.rel_end (fun vs w8 hq hall => ?_)
 rw [HF.out]
 have qe0 : vs 0 = _ := Rel.fin hall 0 (by decide)
 have qe1 : vs 1 = _ := Rel.fin hall 1 (by decide)
 have qe2 : WalkCp _ _ _ (vs 2) w8 := Rel.fin hall 2 (by decide)
 have qe3 : vs 3 = _ := Rel.fin hall 3 (by decide)
 have qe4 : vs 4 = _ := Rel.fin hall 4 (by decide)
 clear hall HF uv ue
 clear HXX KX KW HPP
 rw [show vs (0 + 1 + 1 + 1 + 1) = .bool false from qe4]
 have B_w8 := Lib.hid (Base.Below.nextA B_w6.out hq)
 clear hq
 go_wp2
 go_ret
 exact ⟨rfl, B_w8.out⟩
theorem exactMix_v {w : World} {u : Value} (h : Open.IsWalk w u) (x y : Int) : Calls Tryz.prog 3 #[u, .agg #[.int .i64 x, .int .i64 y]] w fun e w' => e = .returned (.bool true) ∧ Below w.heap.size w w' := by
 obtain ⟨A, n, c, L, fs, rfl, hn, hL, hx⟩ := h.ex
 exact exactMix_any A c n L fs x y w hn hL hx
end Go.Proofs.YthagenodiofgnaaGreat.MixL
namespace Go.Proofs.YthagenodiofgnaaGreat.Frame
open Go.RowKit Go.WideShapes Go.ChangeShapes Go.Joins
set_option linter.unusedVariables false
theorem laidOut : laidOutB Tryz.prog = true := by kernel_rfl
theorem own : ownKnob Tryz.prog.godebug = none := by kernel_rfl
section
variable {H : Type} {enc : TypeId × Value → H} {P : Program}
theorem trodAll_below (hl : laidOutB P = true) {W W' : World} (hb : Below W.heap.size W W') :
  ∀ {ts : List TypeId} {vs : List Value} {ds : List (DataW H)} {ps : List MemPlace}, (ts.all fun t => P.readableRec t && decide (t < P.types.size)) = true →
   DataW.TrodAll enc P W 0 (fun _ => true) true ts vs ds ps → (∀ x ∈ ps, x.block < W.heap.size) → DataW.TrodAll enc P W' 0 (fun b => decide (b < W.heap.size)) true ts vs ds ps
 | [], vs, ds, ps, _, h, _ => by
  obtain ⟨rfl, rfl, rfl⟩ := trodAll_nil h
  exact trodAll_mk0
 | t :: ts, vs, ds, ps, hr, h, hlt => by
  simp only [List.all_cons, Bool.and_eq_true, decide_eq_true_eq] at hr
  obtain ⟨v, vs', d, ds', p, q, rfl, rfl, rfl, h0, h1⟩ := trodAll_cons h
  exact trodAll_cons_mk (Below.trod hl hr.1.1 hr.1.2 h0 hb fun x hx => hlt x (List.mem_append.2 (.inl hx))) (trodAll_below hl hb hr.2 h1 fun x hx => hlt x (List.mem_append.2 (.inr hx)))
theorem post_below {f : Func} {s : ChangeSpec} {apart fresh handsOn : Bool} {W W' : World} {args : Array Value} {v : Value} {ds : List (DataW H)} {before : List MemPlace}
  (hvars0 : s.vars = []) (hl : laidOutB P = true) (hr : (f.params.toList.all fun t => P.readableRec t && decide (t < P.types.size)) = true)
  (hW : DataW.Whole enc P f.params.toList s.vars apart W args.toList ds [] before)
  (hA : DataW.TrodAll enc P W 0 (fun _ => true) true f.params.toList args.toList ds before)
  (hargs : (s.fn H (ds ++ [])).args = ds) (hvars : (s.fn H (ds ++ [])).vars = [])
  (hres : ∀ (b : Nat) (sp : Nat → Bool) (hd : Bool), DataW.TrodAll enc P W' b sp hd f.resultTypes.toList (v.resultList f.resultTypes.size) (s.fn H (ds ++ [])).results [])
  (hb : Below W.heap.size W W') : s.post enc P f apart fresh handsOn false W args v W' := by
 have hlt : ∀ p ∈ before, p.block < W.heap.size := fun p hp => hW.lt p hp
 have hA' := trodAll_below (enc := enc) hl hb hr hA hlt
 refine ⟨ds, [], before, [], before, [], hW, hres _ _ _, ?_, ?_, World.keptBut_mono (fun p hp => ⟨hp, ?_⟩) (hb.frame (· ∈ before)), fun h => by cases h⟩
 ·rw [hargs]; exact hA'
 ·rw [hvars, hvars0]; exact rfl
 ·right; simpa using hp
end
end Go.Proofs.YthagenodiofgnaaGreat.Frame

/- Lists of texts in memory, and lists of streams that are copied. -/
import Derived.Test.YtogadldnkhdjbaaDoorMemS
import Derived.Test.YtogadldnkhdjbaaDoorCopy
namespace Go.Proofs.YtogadldnkhdjbaaDoor.LabM
open Go.RowKit Go.Proofs.YtogadldnkhdjbaaDoor Go.Proofs.YtogadldnkhdjbaaDoor.Base Go.Proofs.YtogadldnkhdjbaaDoor.Mem Go.Proofs.YtogadldnkhdjbaaDoor.Cpy Go.Proofs.YtogadldnkhdjbaaDoor.MemS Go.Proofs.YtogadldnkhdjbaaDoor.Str
set_option linter.unusedVariables false
theorem infoT : (Tryd.prog.info? 9).map (fun i => (i.zero, i.size, i.bytes)) = some (some (.string ByteArray.empty), 1, 16) := by kernel_rfl
def texts (ss : List ByteArray) : List Value := ss.map Value.string
def totT (ss : List ByteArray) : Nat := (ss.map ByteArray.size).sum
theorem totT_take_succ : ∀ (ss : List ByteArray) (i : Nat), i < ss.length → totT (ss.take (i + 1)) = totT (ss.take i) + (ss.getD i ByteArray.empty).size
  | [], i, h => absurd h (Nat.not_lt_zero i)
  | s :: r, 0, h => by simp [totT]
  | s :: r, i + 1, h => by
    have := totT_take_succ r i (by simpa using h)
    simp only [totT, List.take_succ_cons, List.map_cons, List.sum_cons, List.getD_cons_succ] at *
    omega
/-- the texts ss lie behind A, in a block below B -/
def RdT (w : World) (B : Nat) (A : Option Addr) (ss : List ByteArray) : Prop :=
  0 < ss.length → ∃ b off, A = some ⟨b, off, none⟩ ∧ b < B ∧ ∀ i, i < ss.length → w.cell? ⟨b, off + i, none⟩ = some (.string (ss.getD i ByteArray.empty))
theorem RdT.below {w w' : World} {B C : Nat} {A : Option Addr} {ss : List ByteArray} (h : RdT w B A ss) (hb : Below C w w') (hBC : B ≤ C) : RdT w' B A ss := fun h0 => by
  obtain ⟨b, off, e, hlt, hc⟩ := h h0
  exact ⟨b, off, e, hlt, fun i hi => (hb.cell (p := ⟨b, off + i, none⟩) (by show b < C; omega)).trans (hc i hi)⟩
theorem RdT.more {w : World} {B C : Nat} {A : Option Addr} {ss : List ByteArray} (h : RdT w B A ss) (hBC : B ≤ C) : RdT w C A ss := fun h0 => by
  obtain ⟨b, off, e, hlt, hc⟩ := h h0
  exact ⟨b, off, e, by omega, hc⟩
def OwnT (w : World) (B : Nat) (v : Value) (ss : List ByteArray) : Prop := w.ownsRow B 9 1 v ss.length (texts ss)
theorem OwnT.rd {w : World} {B n c : Nat} {A : Option Addr} {ss : List ByteArray} (h : OwnT w B (.slice A n c) ss) : RdT w w.heap.size A ss := fun h0 => by
  obtain ⟨A', c', e, hf⟩ := ownsRow_form h
  injection e with e1 e2 e3
  subst e1 e2 e3
  obtain ⟨g, rfl, _, hlt⟩ := hf h0
  refine ⟨g, 0, rfl, hlt, fun i hi => ?_⟩
  rw [Nat.zero_add, World.ownsRow.cellAt h i (by omega)]
  simp [texts, List.getD, hi]
def ToRelT (B g : Nat) (ss : List ByteArray) (w : World) (i : Value) (wr : World) : Prop :=
  ∃ j : Nat, j ≤ ss.length ∧ i = .int .i64 (j : Int) ∧ wr.ownsRow B 9 1 (.slice (some ⟨g, 0, none⟩) ss.length ss.length) ss.length ((ss.take j).map Value.string ++ List.replicate (ss.length - j) (.string ByteArray.empty)) ∧ Below B w wr
theorem ToRelT.next {B g j : Nat} {ss : List ByteArray} {w wr : World} (hj : j < ss.length) (hg : B ≤ g)
    (h : wr.ownsRow B 9 1 (.slice (some ⟨g, 0, none⟩) ss.length ss.length) ss.length ((ss.take j).map Value.string ++ List.replicate (ss.length - j) (.string ByteArray.empty))) (hb : Below B w wr) :
    ToRelT B g ss w (.int .i64 ((j : Int) + 1)) (wr.setCell ⟨g, j, none⟩ (.string (ss.getD j ByteArray.empty))) := by
  obtain ⟨h1, _⟩ := h.stored j (.string (ss.getD j ByteArray.empty))
  rw [half_set Value.string _ ss ByteArray.empty j hj] at h1
  exact ⟨j + 1, hj, by simp, h1, hb.setCell hg _⟩
def SzT (k : Int) (ss : List ByteArray) (w : World) (e : Ending) (w' : World) : Prop := ∃ r : Int, e = .returned (.int .i64 r) ∧ (r = -1 ∨ (0 ≤ r ∧ r = k - ss.length - totT ss)) ∧ w = w'
/-! ### Streams that are copied -/
theorem set7_half {fs : List Int} {n j : Nat} (hl : fs.length = 7 * n) (hj : j < n) (t : Nat) (ht : t < 7) :
    (ints (fs.take (7 * j + t) ++ List.replicate (7 * n - (7 * j + t)) 0)).set (7 * j + t) (.int .i64 (fs.getD (7 * j + t) 0)) = ints (fs.take (7 * j + t + 1) ++ List.replicate (7 * n - (7 * j + t + 1)) 0) := by
  have hlt : 7 * j + t < fs.length := by omega
  rw [ints_set, List.set_append_right _ _ (by rw [List.length_take]; omega), List.length_take, Nat.min_eq_left (by omega), Nat.sub_self,
    show 7 * n - (7 * j + t) = (7 * n - (7 * j + t + 1)) + 1 by omega, List.replicate_succ, List.set_cons_zero, List.take_succ_eq_append_getElem hlt, List.append_assoc]
  simp [List.getD, hlt]
def HalfS (wr : World) (B g n j : Nat) (fs : List Int) : Prop := wr.ownsRow B 40 7 (.slice (some ⟨g, 0, none⟩) n n) n (ints (fs.take (7 * j) ++ List.replicate (7 * n - 7 * j) 0))
theorem half_store {wr : World} {B g n j t : Nat} {fs : List Int} (h : wr.ownsRow B 40 7 (.slice (some ⟨g, 0, none⟩) n n) n (ints (fs.take (7 * j + t) ++ List.replicate (7 * n - (7 * j + t)) 0))) (hl : fs.length = 7 * n) (hj : j < n) (ht : t < 7) :
    (wr.setCell ⟨g, 7 * j + t, none⟩ (.int .i64 (fs.getD (7 * j + t) 0))).ownsRow B 40 7 (.slice (some ⟨g, 0, none⟩) n n) n (ints (fs.take (7 * j + t + 1) ++ List.replicate (7 * n - (7 * j + t + 1)) 0)) ∧ wr.grownBy (wr.setCell ⟨g, 7 * j + t, none⟩ (.int .i64 (fs.getD (7 * j + t) 0))) (some g) := by
  obtain ⟨h1, h2⟩ := h.stored (7 * j + t) (.int .i64 (fs.getD (7 * j + t) 0))
  rw [set7_half hl hj t ht] at h1
  exact ⟨h1, h2⟩
def put7 (w : World) (g q : Nat) (f : Nat → Int) : World :=
  ((((((w.setCell ⟨g, q, none⟩ (.int .i64 (f 0))).setCell ⟨g, q + 1, none⟩ (.int .i64 (f 1))).setCell ⟨g, q + 2, none⟩ (.int .i64 (f 2))).setCell ⟨g, q + 3, none⟩ (.int .i64 (f 3))).setCell ⟨g, q + 4, none⟩ (.int .i64 (f 4))).setCell ⟨g, q + 5, none⟩ (.int .i64 (f 5))).setCell ⟨g, q + 6, none⟩ (.int .i64 (f 6))
theorem half_next {wr : World} {B g n j : Nat} {fs : List Int} (h : HalfS wr B g n j fs) (hl : fs.length = 7 * n) (hj : j < n) : HalfS (put7 wr g (j * 7) (fun i => fs.getD (7 * j + i) 0)) B g n (j + 1) fs := by
  obtain ⟨h1, _⟩ := half_store (t := 0) h hl hj (by decide)
  obtain ⟨h2, _⟩ := half_store (t := 1) h1 hl hj (by decide)
  obtain ⟨h3, _⟩ := half_store (t := 2) h2 hl hj (by decide)
  obtain ⟨h4, _⟩ := half_store (t := 3) h3 hl hj (by decide)
  obtain ⟨h5, _⟩ := half_store (t := 4) h4 hl hj (by decide)
  obtain ⟨h6, _⟩ := half_store (t := 5) h5 hl hj (by decide)
  obtain ⟨h7, _⟩ := half_store (t := 6) h6 hl hj (by decide)
  unfold HalfS put7
  rw [Nat.mul_comm j 7]
  exact h7
def ToRelS (B g n : Nat) (fs : List Int) (w : World) (i : Value) (wr : World) : Prop := ∃ j : Nat, j ≤ n ∧ i = .int .i64 (j : Int) ∧ Hid (HalfS wr B g n j fs) ∧ Hid (Below B w wr)
theorem below_put7 {B : Nat} {w wr : World} {g q : Nat} {f : Nat → Int} (h : Below B w wr) (hg : B ≤ g) : Below B w (put7 wr g q f) :=
  ((((((h.setCell hg _).setCell hg _).setCell hg _).setCell hg _).setCell hg _).setCell hg _).setCell hg _
theorem infoSt7 : (Tryd.prog.info? 40).map (fun i => (i.zero, i.size, i.bytes)) = some (some (.agg #[.int .i64 0, .int .i64 0, .int .i64 0, .int .i64 0, .int .i64 0, .int .i64 0, .int .i64 0]), 7, 56) := by kernel_rfl
def zero7 : Array Value := #[.int .i64 0, .int .i64 0, .int .i64 0, .int .i64 0, .int .i64 0, .int .i64 0, .int .i64 0]
theorem zero7_at : ∀ m, m < 7 → zero7[m]! = .int .i64 0
  | 0, _ => rfl
  | 1, _ => rfl
  | 2, _ => rfl
  | 3, _ => rfl
  | 4, _ => rfl
  | 5, _ => rfl
  | 6, _ => rfl
  | n + 7, h => absurd h (by omega)
theorem made7 (n : Nat) : (madeCells zero7 (n * 7)).toList = ints (List.replicate (7 * n) 0) := by
  apply List.ext_getElem?
  intro j
  rw [Nat.mul_comm n 7]
  by_cases hj : j < 7 * n
  · have h1 := zero7_at (j % 7) (Nat.mod_lt _ (by decide))
    have h2 : zero7.size = 7 := rfl
    simp [madeCells, ints, hj, h2, h1]
  · simp [madeCells, ints, hj]
theorem run_make7 (n : Nat) (hn : n ≤ 1048576) (w : World) : (Instr.makeSlice 26 (.int .i64 (n : Int)) (.int .i64 (n : Int))).run Tryd.prog w = .ok (.slice (some ⟨w.heap.size, 0, none⟩) n n) (w.alloc (.cells (madeCells zero7 (n * 7)) 40)) := by
  obtain ⟨i, hi, hzz⟩ := Option.map_eq_some_iff.1 infoSt7
  simp only [Prod.mk.injEq] at hzz
  obtain ⟨hz, hs, hb⟩ := hzz
  have hr := run_make (P := Tryd.prog) w 26 40 i _ Tryd.underlying26 hi hz .i64 .i64 n n (by omega) (Int.le_refl _) (by rw [hb]; omega) (by omega)
  simp only [Int.toNat_natCast, hs] at hr
  exact hr
theorem half_start (w : World) (n : Nat) (hn : n ≤ 1048576) (fs : List Int) : HalfS (w.alloc (.cells (madeCells zero7 (n * 7)) 40)) w.heap.size w.heap.size n 0 fs := by
  have := World.ownsRow_lit (e := 40) (size := 7) (base := w.heap.size) w (madeCells zero7 (n * 7)) n (Nat.le_refl _) (by simp [maxLen]; omega) (by rw [size_madeCells])
  rw [made7] at this
  unfold HalfS
  simpa using this
end Go.Proofs.YtogadldnkhdjbaaDoor.LabM

/- Walks in memory; whether one is valid, in plain words. -/
import Derived.Test.YtionognmgcabbaaGreatMgExt09
import Derived.Test.YtionognmgcabbaaGreatMgExt08
import Derived.Test.YtionognmgcabbaaGreatMgExt01
import Derived.Deep.Slices
import Derived.Test.YtionognmgcabbaaGreatMgExt13
import Derived.Test.YtionognmgcabbaaGreatMgExt21
import Derived.Test.YtionognmgcabbaaGreatRows
import Derived.Below
import Derived.ChangeSame
import Derived.Carry
import Derived.OpenShut
import Derived.Lib.SmallJoins
namespace Go.Proofs.YtionognmgcabbaaGreat.WalkM
open Go.RowKit Go.Proofs.YtionognmgcabbaaGreat Go.Proofs.YtionognmgcabbaaGreat.Base Go.Proofs.YtionognmgcabbaaGreat.Mem Go.Proofs.YtionognmgcabbaaGreat.MemF Go.Proofs.YtionognmgcabbaaGreat.ChM
set_option linter.unusedVariables false
/-- n lists of fractions lie behind A, in blocks below B: list i has L i fractions, its numbers are fs i -/
def RdFF (w : World) (B : Nat) (A : Option Addr) (n : Nat) (L : Nat → Nat) (fs : Nat → List Int) : Prop :=
  0 < n → ∃ b off, A = some ⟨b, off, none⟩ ∧ b < B ∧ ∀ i, i < n → ∃ A' c, w.cell? ⟨b, off + i, none⟩ = some (.slice A' (L i) c) ∧ RdF w B A' (L i) (fs i)
theorem RdFF.below {w w' : World} {B C n : Nat} {A : Option Addr} {L : Nat → Nat} {fs : Nat → List Int} (h : RdFF w B A n L fs) (hb : Below C w w') (hBC : B ≤ C) : RdFF w' B A n L fs := fun h0 => by
  obtain ⟨b, off, e, hlt, hc⟩ := h h0
  refine ⟨b, off, e, hlt, fun i hi => ?_⟩
  obtain ⟨A', c, h1, h2⟩ := hc i hi
  exact ⟨A', c, (hb.cell (p := ⟨b, off + i, none⟩) (by show b < C; omega)).trans h1, h2.below hb hBC⟩
theorem RdFF.more {w : World} {B C n : Nat} {A : Option Addr} {L : Nat → Nat} {fs : Nat → List Int} (h : RdFF w B A n L fs) (hBC : B ≤ C) : RdFF w C A n L fs := fun h0 => by
  obtain ⟨b, off, e, hlt, hc⟩ := h h0
  refine ⟨b, off, e, by omega, fun i hi => ?_⟩
  obtain ⟨A', c, h1, h2⟩ := hc i hi
  exact ⟨A', c, h1, h2.more hBC⟩
theorem RdFF.at {w : World} {B n : Nat} {A : Option Addr} {L : Nat → Nat} {fs : Nat → List Int} (h : RdFF w B A n L fs) {i : Nat} (hi : i < n) : ∃ b off A' c, A = some ⟨b, off, none⟩ ∧ b < B ∧ w.cell? ⟨b, off + i, none⟩ = some (.slice A' (L i) c) ∧ RdF w B A' (L i) (fs i) := by
  obtain ⟨b, off, e, hlt, hc⟩ := h (by omega)
  obtain ⟨A', c, h1, h2⟩ := hc i hi
  exact ⟨b, off, A', c, e, hlt, h1, h2⟩
def rowOk (n : Nat) (L : Nat → Nat) (fs : Nat → List Int) (i : Nat) : Bool := decide (L i = n) && chB (fs i) (L i)
/-- a valid walk -/
def wkB (n : Nat) (L : Nat → Nat) (fs : Nat → List Int) : Bool := decide (1 ≤ n ∧ n ≤ 6) && (List.range n).all (rowOk n L fs)
theorem wkB_out {n : Nat} {L : Nat → Nat} {fs : Nat → List Int} (h : ¬ (1 ≤ n ∧ n ≤ 6)) : wkB n L fs = false := by
  unfold wkB; rw [decide_eq_false h]; rfl
theorem wkB_in {n : Nat} {L : Nat → Nat} {fs : Nat → List Int} (h : 1 ≤ n ∧ n ≤ 6) : wkB n L fs = (List.range n).all (rowOk n L fs) := by
  unfold wkB; rw [decide_eq_true h]; rfl
theorem wkB_true {n : Nat} {L : Nat → Nat} {fs : Nat → List Int} (h : wkB n L fs = true) : 1 ≤ n ∧ n ≤ 6 ∧ ∀ i, i < n → L i = n ∧ chB (fs i) n = true := by
  simp only [wkB, Bool.and_eq_true, decide_eq_true_eq] at h
  refine ⟨h.1.1, h.1.2, fun i hi => ?_⟩
  have := all_range.1 h.2 i hi
  simp only [rowOk, Bool.and_eq_true, decide_eq_true_eq] at this
  exact ⟨this.1, by rw [← this.1]; exact (by have h2 := this.2; rw [this.1] at h2 ⊢; exact h2)⟩
end Go.Proofs.YtionognmgcabbaaGreat.WalkM
/- The laws' sizes and copies of lists of fractions. -/
namespace Go.Proofs.YtionognmgcabbaaGreat.CpyF
open Go.RowKit Go.Proofs.YtionognmgcabbaaGreat Go.Proofs.YtionognmgcabbaaGreat.Base Go.Proofs.YtionognmgcabbaaGreat.Mem Go.Proofs.YtionognmgcabbaaGreat.Cpy Go.Proofs.YtionognmgcabbaaGreat.MemF Go.Proofs.YtionognmgcabbaaGreat.WalkM
set_option linter.unusedVariables false
theorem szF_any (A : Option Addr) (n c : Nat) (k : Int) (w : World) (hn : n ≤ 9223372036854775807) (hk : 0 ≤ k) (hk2 : k ≤ 1048576) :
    Calls Tryz.prog 12 #[.slice A n c, .int .i64 k] w fun e w' => ∃ r : Int, e = .returned (.int .i64 r) ∧ (r = -1 ∨ (0 ≤ r ∧ r = k - n)) ∧ w = w' := by
  by_cases h0 : k - (n : Int) < 0
  · go_enter Tryz.func12, Tryz.ntmps12
    go_wp2
    go_ret
    exact ⟨-1, rfl, .inl rfl, rfl⟩
  · go_enter Tryz.func12, Tryz.ntmps12
    go_wp2
    go_ret
    exact ⟨k - n, rfl, .inr ⟨by omega, rfl⟩, rfl⟩
/-! ### Fractions that are copied -/
theorem toFr_any (a b : Int) (w : World) : Calls Tryz.prog 38 #[.agg #[.int .i64 a, .int .i64 b]] w fun e w' => e = .returned (.agg #[.int .i64 a, .int .i64 b]) ∧ Below w.heap.size w w' := by
  go_enter Tryz.func38, Tryz.ntmps38
  go_wp2
  exact bodyPost_ret (v := .agg #[.int .i64 a, .int .i64 b]) (by simp [results, Tryz.results38, go_sem]) rfl ⟨rfl, (((Below.refl _ _).alloc (Nat.le_refl _) _).alloc (by simp) _).alloc (by simp; omega) _⟩
theorem set2_half {fs : List Int} {n j : Nat} (hl : fs.length = 2 * n) (hj : j < n) (t : Nat) (ht : t < 2) :
    (ints (fs.take (2 * j + t) ++ List.replicate (2 * n - (2 * j + t)) 0)).set (2 * j + t) (.int .i64 (fs.getD (2 * j + t) 0)) = ints (fs.take (2 * j + t + 1) ++ List.replicate (2 * n - (2 * j + t + 1)) 0) := by
  have hlt : 2 * j + t < fs.length := by omega
  rw [ints_set, List.set_append_right _ _ (by rw [List.length_take]; omega), List.length_take, Nat.min_eq_left (by omega), Nat.sub_self,
    show 2 * n - (2 * j + t) = (2 * n - (2 * j + t + 1)) + 1 by omega, List.replicate_succ, List.set_cons_zero, List.take_succ_eq_append_getElem hlt, List.append_assoc]
  simp [List.getD, hlt]
def HalfF (wr : World) (B g n j : Nat) (fs : List Int) : Prop := wr.ownsRow B 43 2 (.slice (some ⟨g, 0, none⟩) n n) n (ints (fs.take (2 * j) ++ List.replicate (2 * n - 2 * j) 0))
theorem halfF_store {wr : World} {B g n j t : Nat} {fs : List Int} (h : wr.ownsRow B 43 2 (.slice (some ⟨g, 0, none⟩) n n) n (ints (fs.take (2 * j + t) ++ List.replicate (2 * n - (2 * j + t)) 0))) (hl : fs.length = 2 * n) (hj : j < n) (ht : t < 2) :
    (wr.setCell ⟨g, 2 * j + t, none⟩ (.int .i64 (fs.getD (2 * j + t) 0))).ownsRow B 43 2 (.slice (some ⟨g, 0, none⟩) n n) n (ints (fs.take (2 * j + t + 1) ++ List.replicate (2 * n - (2 * j + t + 1)) 0)) := by
  obtain ⟨h1, h2⟩ := h.stored (2 * j + t) (.int .i64 (fs.getD (2 * j + t) 0))
  rw [set2_half hl hj t ht] at h1
  exact h1
theorem halfF_next {wr : World} {B g n j : Nat} {fs : List Int} (h : HalfF wr B g n j fs) (hl : fs.length = 2 * n) (hj : j < n) : HalfF ((wr.setCell ⟨g, j * 2, none⟩ (.int .i64 (fs.getD (2 * j) 0))).setCell ⟨g, j * 2 + 1, none⟩ (.int .i64 (fs.getD (2 * j + 1) 0))) B g n (j + 1) fs := by
  have h1 := halfF_store (t := 0) h hl hj (by decide)
  have h2 := halfF_store (t := 1) h1 hl hj (by decide)
  unfold HalfF
  rw [Nat.mul_comm j 2]
  exact h2
def ToRelF (B g n : Nat) (fs : List Int) (w : World) (i : Value) (wr : World) : Prop := ∃ j : Nat, j ≤ n ∧ i = .int .i64 (j : Int) ∧ Hid (HalfF wr B g n j fs) ∧ Hid (Below B w wr)
def zero2 : Array Value := #[.int .i64 0, .int .i64 0]
theorem zero2_at : ∀ m, m < 2 → zero2[m]! = .int .i64 0
  | 0, _ => rfl
  | 1, _ => rfl
  | n + 2, h => absurd h (by omega)
theorem made2 (n : Nat) : (madeCells zero2 (n * 2)).toList = ints (List.replicate (2 * n) 0) := by
  apply List.ext_getElem?
  intro j
  rw [Nat.mul_comm n 2]
  by_cases hj : j < 2 * n
  · have h1 := zero2_at (j % 2) (Nat.mod_lt _ (by decide))
    have h2 : zero2.size = 2 := rfl
    simp [madeCells, ints, hj, h2, h1]
  · simp [madeCells, ints, hj]
theorem run_make2 (n : Nat) (hn : n ≤ 1048576) (w : World) : (Instr.makeSlice 28 (.int .i64 (n : Int)) (.int .i64 (n : Int))).run Tryz.prog w = .ok (.slice (some ⟨w.heap.size, 0, none⟩) n n) (w.alloc (.cells (madeCells zero2 (n * 2)) 43)) := by
  obtain ⟨i, hi, hzz⟩ := Option.map_eq_some_iff.1 infoFr
  simp only [Prod.mk.injEq] at hzz
  obtain ⟨hz, hs, hb⟩ := hzz
  have hr := run_make (P := Tryz.prog) w 28 43 i _ Tryz.underlying28 hi hz .i64 .i64 n n (by omega) (Int.le_refl _) (by rw [hb]; omega) (by omega)
  simp only [Int.toNat_natCast, hs] at hr
  exact hr
theorem halfF_start (w : World) (n : Nat) (hn : n ≤ 1048576) (fs : List Int) : HalfF (w.alloc (.cells (madeCells zero2 (n * 2)) 43)) w.heap.size w.heap.size n 0 fs := by
  have := World.ownsRow_lit (e := 43) (size := 2) (base := w.heap.size) w (madeCells zero2 (n * 2)) n (Nat.le_refl _) (by simp [maxLen]; omega) (by rw [size_madeCells])
  rw [made2] at this
  unfold HalfF
  simpa using this
set_option maxHeartbeats 1000000 in
set_option maxRecDepth 100000 in
theorem toF_any (A : Option Addr) (c B0 n : Nat) (fs : List Int) (w : World) (hx : RdF w B0 A n fs) (hB : B0 ≤ w.heap.size) (hn : n ≤ 1048576) (hl : fs.length = 2 * n) :
    Calls Tryz.prog 15 #[.slice A n c] w fun e w' => ∃ g, e = .returned (.slice (some ⟨g, 0, none⟩) n n) ∧ OwnF w' w.heap.size (.slice (some ⟨g, 0, none⟩) n n) n fs ∧ Below w.heap.size w w' := by
  have HX := Lib.hid (hx.more hB)
  have HL := Lib.hid hl
  have hmk := fun w => run_make2 n hn w
  have H0 : Hid (ToRelF w.heap.size w.heap.size n fs w (.int .i64 0) (w.alloc (.cells (madeCells zero2 (n * 2)) 43))) := Lib.hid ⟨0, Nat.zero_le _, rfl, Lib.hid (halfF_start w n hn fs), Lib.hid ((Below.refl _ _).alloc (Nat.le_refl _) _)⟩
  clear hx hl
  go_enter Tryz.func15, Tryz.ntmps15
  go_wp2
  clear hmk
  go_loopw [4] (fun i wr => ToRelF w.heap.size w.heap.size n fs w i wr) (fun i _ => n - (intOf i).toNat)
  case atStart => exact H0.out
  case round =>
    obtain ⟨j, hj, rfl, hrow, hb⟩ := hrel
    by_cases hlt : j < n
    · obtain ⟨b, off, rfl, hbl, c0, c1⟩ := (HX.out.below hb.out (Nat.le_refl _)).at hlt
      have hcell : ∀ i, i < 2 → ∃ x : Int, wr.cell? ⟨w.heap.size, j * 2 + i, none⟩ = some (.int .i64 x) := fun i hi => by
        have hh : wr.ownsRow w.heap.size 43 2 (.slice (some ⟨w.heap.size, 0, none⟩) n n) n (ints (fs.take (2 * j) ++ List.replicate (2 * n - 2 * j) 0)) := hrow.out
        have e1 := World.ownsRow.cellAt hh (j * 2 + i) (by omega)
        rw [ints_get _ (j * 2 + i) (by have := HL.out; simp; omega)] at e1
        exact ⟨_, e1⟩
      have hfz : ∀ i, wr.frozen? ⟨w.heap.size, i, none⟩ = false := fun i => by
        have hh : wr.ownsRow w.heap.size 43 2 (.slice (some ⟨w.heap.size, 0, none⟩) n n) n (ints (fs.take (2 * j) ++ List.replicate (2 * n - 2 * j) 0)) := hrow.out
        exact hh.frozenAt i
      have HN := Lib.hid (fun w1 (h1 : Below wr.heap.size wr w1) => (show ToRelF w.heap.size w.heap.size n fs w (.int .i64 ((j : Int) + 1)) ((w1.setCell ⟨w.heap.size, j * 2, none⟩ (.int .i64 (fs.getD (2 * j) 0))).setCell ⟨w.heap.size, j * 2 + 1, none⟩ (.int .i64 (fs.getD (2 * j + 1) 0))) from ⟨j + 1, hlt, by simp, Lib.hid (halfF_next (show HalfF w1 w.heap.size w.heap.size n j fs from ownsRow_below hrow.out h1) HL.out hlt), Lib.hid (((hb.out.trans (h1.mono hb.out.size)).setCell (p := ⟨w.heap.size, j * 2, none⟩) (Nat.le_refl _) _).setCell (p := ⟨w.heap.size, j * 2 + 1, none⟩) (Nat.le_refl _) _)⟩))
      have HT := Lib.hid (fun W => toFr_any (fs.getD (2 * j) 0) (fs.getD (2 * j + 1) 0) W)
      obtain ⟨x0, y0⟩ := hcell 0 (by decide)
      have hlz : w.heap.size < wr.heap.size := block_lt_of_cell y0
      obtain ⟨x1, y1⟩ := hcell 1 (by decide)
      rw [Nat.add_zero] at y0
      have HY := Lib.hid (And.intro y0 y1)
      have HZ := Lib.hid hfz
      clear hrow hb hcell hfz y0 y1
      generalize fs.getD (2 * j) 0 = f0 at *
      generalize fs.getD (2 * j + 1) 0 = f1 at *
      go_wp2_with fail
      refine (HT.out _).mono ?_
      rintro e w1 ⟨rfl, hb1⟩
      have y0 := (hb1.cell (p := ⟨w.heap.size, j * 2, none⟩) hlz).trans HY.out.1
      have y1 := (hb1.cell (p := ⟨w.heap.size, j * 2 + 1, none⟩) hlz).trans HY.out.2
      have z0 := (hb1.frozen (p := ⟨w.heap.size, j * 2, none⟩) hlz).trans (HZ.out _)
      have z1 := (hb1.frozen (p := ⟨w.heap.size, j * 2 + 1, none⟩) hlz).trans (HZ.out _)
      have HM := Lib.hid (HN.out w1 hb1)
      clear hb1 c0 c1
      go_wp2
      go_roundw
      case rel => exact HM.out
      case measure => simp [intOf]; omega
    · obtain rfl : j = n := by omega
      have HR : Hid (OwnF wr w.heap.size (.slice (some ⟨w.heap.size, 0, none⟩) j j) j fs) := Lib.hid (by
        have := hrow.out
        unfold HalfF at this
        rw [Nat.sub_self, List.replicate_zero, List.append_nil, List.take_of_length_le (by have := HL.out; omega)] at this
        exact this)
      have HB := Lib.hid hb.out
      clear hrow hb
      go_wp2
      go_ret
      exact ⟨w.heap.size, rfl, HR.out, HB.out⟩
end Go.Proofs.YtionognmgcabbaaGreat.CpyF
/- Openers for lists of fractions, and for walks. -/
namespace Go.Proofs.YtionognmgcabbaaGreat.Open
open Go.ChangeShapes Go.WideShapes Go.ChangeAt Go.RowKit Go.Joins Go.Proofs.YtionognmgcabbaaGreat
set_option linter.unusedVariables false
set_option maxRecDepth 100000
section
variable {H : Type} {enc : TypeId × Value → H} {w : World} {base b0 : Nat} {spare : Nat → Bool} {held : Bool} {v : Value} {d : DataW H} {p : List MemPlace}
theorem cellsFi : Tryz.prog.cellsOf 2 = 1 := by kernel_rfl
theorem cellsFr : Tryz.prog.cellsOf 59 = 2 := by kernel_rfl
theorem frac_cells {n : Nat} {cs : List Value} {x : DataW H × List MemPlace} (h : DataW.trod enc Tryz.prog w base spare held n 59 cs = some x) : ∃ a b : Int, cs = [.int .i64 a, .int .i64 b] := by
  obtain ⟨xs, n', _, _, hl, hlen, hg⟩ := DataW.trod_struct Tryz.underlying59 h
  obtain ⟨a, e0⟩ := field_int hlen hg 0 _ rfl rfl
  obtain ⟨b, e1⟩ := field_int hlen hg 1 _ rfl rfl
  rw [cellsFr] at hl
  match cs, hl with
  | [c0, c1], _ =>
    simp [cellsFi] at e0 e1
    exact ⟨a, b, by rw [e0, e1]⟩
/-- a list of fractions -/
structure IsFracs (w : World) (v : Value) : Prop where
  ex : ∃ (A : Option Addr) (n c : Nat) (fs : List Int), v = .slice A n c ∧ n ≤ 9223372036854775807 ∧ fs.length = 2 * n ∧ MemF.RdF w w.heap.size A n fs
theorem fracs_of {fuel : Nat} {c0 : Value} {y : DataW H × List MemPlace} (hf : DataW.trod enc Tryz.prog w base (fun _ => true) held fuel 25 [c0] = some y) : IsFracs w c0 := by
  rcases Go.Deep.open_slice Tryz.underlying25 hf with ⟨hcs, _⟩ | ⟨x, len, cap, m, n, D, Pl, hcs, _, hl, hm, hmm, _, hx⟩
  · simp at hcs
    subst hcs
    exact ⟨none, 0, 0, [], rfl, by decide, rfl, fun h => absurd h (by simp)⟩
  · simp at hcs
    subst hcs
    simp only [if_true] at hmm
    unfold maxLen at hm
    have hs2 : 0 < m → x.spot = none := fun h0 => by
      obtain ⟨cs', h1, h2⟩ := hx 0 h0
      rw [cellsFr] at h1
      obtain ⟨a, b, rfl⟩ := frac_cells h2
      have h3 := (World.cells?_some h1).2.2 0 (by decide)
      have e : (x.add (0 * 2)).add 0 = x := by simp [Addr.add]
      rw [e] at h3
      exact World.cell?_spot h3
    have each : ∀ i, i < m → ∃ l : List Int, l.length = 2 ∧ ∀ j, j < 2 → w.cell? (x.add (i * 2 + j)) = some (.int .i64 (l.getD j 0)) := fun i hi => by
      obtain ⟨cs', h1, h2⟩ := hx i hi
      rw [cellsFr] at h1
      obtain ⟨a, b, rfl⟩ := frac_cells h2
      obtain ⟨_, _, h3⟩ := World.cells?_some h1
      refine ⟨[a, b], rfl, fun j hj => ?_⟩
      have hs2 := hs2 (by omega)
      have h4 := h3 j hj
      rw [addr_add hs2] at h4
      rw [addr_add (a := ⟨x.block, x.off + i * 2, none⟩) rfl] at h4
      rw [addr_add hs2, ← Nat.add_assoc, h4]
      match j, hj with
      | 0, _ => rfl
      | 1, _ => rfl
      | j + 2, hj => exact absurd hj (by omega)
    obtain ⟨L, hL⟩ := Go.Deep.choose_lt each
    have hlen : ((List.range (2 * len)).map fun k => (L (k / 2)).getD (k % 2) 0).length = 2 * len := by simp
    refine ⟨some x, len, cap, (List.range (2 * len)).map fun k => (L (k / 2)).getD (k % 2) 0, rfl, by omega, hlen, fun h0 => ?_⟩
    have h00 := (hL 0 (by omega)).2 0 (by decide)
    rw [Nat.zero_mul, Nat.zero_add] at h00
    obtain ⟨hs, hb⟩ := spot_of h00
    refine ⟨x.block, x.off, by cases x; simp_all, hb, fun i hi => ?_⟩
    have h5 := (hL (i / 2) (by omega)).2 (i % 2) (Nat.mod_lt _ (by decide))
    rw [Nat.mul_comm, Nat.div_add_mod] at h5
    rw [← addr_add hs, h5]
    simp [List.getD, hi]
theorem fracs (hv : Value.okWide Tryz.prog w .any b0 25 v) (h : DataW.Trod enc Tryz.prog w base (fun _ => true) held 25 v d p) : IsFracs w v := by
  obtain ⟨a, len, cap, rfl⟩ := okWide_slice Tryz.underlying25 hv
  obtain ⟨fuel, hf⟩ := h
  exact fracs_of (by simpa [Value.cells] using hf)
end
end Go.Proofs.YtionognmgcabbaaGreat.Open
/- ExtractDistance: both sides, and the law. -/
namespace Go.Proofs.YtionognmgcabbaaGreat.ExdL
open Go.RowKit Go.Proofs.YtionognmgcabbaaGreat Go.Proofs.YtionognmgcabbaaGreat.Base Go.Proofs.YtionognmgcabbaaGreat.Mem Go.Proofs.YtionognmgcabbaaGreat.MemF Go.Proofs.YtionognmgcabbaaGreat.ChM Go.Proofs.YtionognmgcabbaaGreat.GiveM Go.Proofs.YtionognmgcabbaaGreat.ExtM Go.Proofs.YtionognmgcabbaaGreat.Ratio Go.Proofs.YtionognmgcabbaaGreat.Wide Go.Proofs.YtionognmgcabbaaGreat.Cpy Go.Proofs.YtionognmgcabbaaGreat.RowsS Go.Proofs.YtionognmgcabbaaGreat.RatM Go.Proofs.YtionognmgcabbaaGreat.Blk
set_option linter.unusedVariables false
/-- a fraction that is returned, and whether there is one -/
def FrRet (P Q : Int) (ok : Bool) (w : World) (e : Ending) (w' : World) : Prop := e = .returned (.tuple #[.agg #[.int .i64 P, .int .i64 Q], .bool ok]) ∧ Below w.heap.size w w'
def exdP (xs fs : List Int) (n : Nat) : Int := if isE xs fs n then numQ (farQ xs fs n) else 0
def exdQ (xs fs : List Int) (n : Nat) : Int := if isE xs fs n then denQ (farQ xs fs n) else 0
def exdB (xs fs : List Int) (n : Nat) : Bool := if isE xs fs n then smallQ (farQ xs fs n) else false
theorem exd_yes {xs fs : List Int} {n : Nat} (h : isE xs fs n = true) : exdP xs fs n = numQ (farQ xs fs n) ∧ exdQ xs fs n = denQ (farQ xs fs n) ∧ exdB xs fs n = smallQ (farQ xs fs n) := by
  unfold exdP exdQ exdB
  simp only [h, if_true, and_self]
theorem exd_no {xs fs : List Int} {n : Nat} (h : isE xs fs n = false) : exdP xs fs n = 0 ∧ exdQ xs fs n = 0 ∧ exdB xs fs n = false := by
  unfold exdP exdQ exdB
  simp [h]
/-- the result's cells -/
theorem fr_put {w wq : World} {P Q : Int} {ok : Bool} {b : Nat} (hb : Below w.heap.size w wq) (hB : w.heap.size ≤ b) : FrRet P Q ok w (.returned (.tuple #[.agg #[.int .i64 P, .int .i64 Q], .bool ok])) ((wq.setCell ⟨b, 0, none⟩ (.int .i64 P)).setCell ⟨b, 1, none⟩ (.int .i64 Q)) :=
  ⟨rfl, (hb.setCell (p := ⟨b, 0, none⟩) hB _).setCell (p := ⟨b, 1, none⟩) hB _⟩
set_option maxHeartbeats 1000000 in
theorem implExd_any (A A' : Option Addr) (c c' B n : Nat) (xs fs : List Int) (w : World) (hx : RdI w B A xs) (hy : RdF w B A' n fs) (hB : B ≤ w.heap.size) (hl : xs.length ≤ 1048576) (hn : n ≤ 1048576) :
    Calls Tryz.prog 24 #[.slice A xs.length c, .slice A' n c'] w (FrRet (exdP xs fs n) (exdQ xs fs n) (exdB xs fs n) w) := by
  have hb0 : Below w.heap.size w (w.alloc (.cells #[.int .i64 0, .int .i64 0] 43)) := (Below.refl _ _).alloc (Nat.le_refl _) _
  have KR0 : Hid (Blk (w.alloc (.cells #[.int .i64 0, .int .i64 0] 43)) w.heap.size 43 #[.int .i64 0, .int .i64 0]) := Lib.hid (Blk.new w _ _)
  have HB0 := Lib.hid hb0
  have HX := Lib.hid ((hx.below hb0 hB).more (Nat.le_trans hB hb0.size))
  have HY := Lib.hid ((hy.below hb0 hB).more (Nat.le_trans hB hb0.size))
  have HE := Lib.hid (isE_any (c := c') (c' := c) _ HY.out (Nat.le_refl _) (by omega) HX.out (Nat.le_refl _) (by omega))
  clear hx hy hb0
  cases h : isE xs fs n with
  | false =>
    obtain ⟨e1, e2, e3⟩ := exd_no h
    rw [h] at HE
    rw [e1, e2, e3]
    clear h e1 e2 e3
    go_enter Tryz.func24, Tryz.ntmps24
    go_wp2_with fail
    refine HE.out.mono ?_
    rintro e w1 ⟨rfl, hb1⟩
    have KRq := KR0.out.belowS hb1
    have HBq := Base.Below.nextA HB0.out hb1
    clear hb1 KR0 HB0 HE HX HY
    have z0 := (KRq).frz 0
    have z1 := (KRq).frz 1
    have c0 := (KRq).at 0 (v := .int .i64 0) rfl
    have c1 := (KRq).at 1 (v := .int .i64 0) rfl
    have HFIN := Lib.hid (fr_put (P := 0) (Q := 0) (ok := false) (HBq) (Nat.le_refl _))
    have SS := ((KRq).setTo 0 (.int .i64 0) rfl).setTo 1 (.int .i64 0) rfl
    have s0 := SS.at 0 rfl
    have s1 := SS.at 1 rfl
    clear SS
    go_wp2
    refine bodyPost_ret (v := .tuple #[.agg #[.int .i64 0, .int .i64 0], .bool false]) (by simp [results, Tryz.results24, go_sem, s0, s1]) rfl ?_
    exact HFIN.out
  | true =>
    obtain ⟨e1, e2, e3⟩ := exd_yes h
    rw [h] at HE
    rw [e1, e2, e3]
    obtain ⟨hv, h16, l1, l3, hr, _⟩ := isE_true h
    have HRS := Lib.hid (fun W (hb : Below (w.alloc (.cells #[.int .i64 0, .int .i64 0] 43)).heap.size (w.alloc (.cells #[.int .i64 0, .int .i64 0] 43)) W) => ratios_any (c := c') W (HY.out.below hb (Nat.le_refl _)) hb.size hv (by omega))
    have HEX := Lib.hid (fun W A2 c2 (hb : Below (w.alloc (.cells #[.int .i64 0, .int .i64 0] 43)).heap.size (w.alloc (.cells #[.int .i64 0, .int .i64 0] 43)) W) (hR : RdR W A2 n (fq fs)) => unevI_any (c := c2) (c' := c) W hR hv h16 (HX.out.below hb (Nat.le_refl _)) hb.size l1 l3 hr)
    clear h e1 e2 e3 hv hr
    generalize farQ xs fs n = q at *
    go_enter Tryz.func24, Tryz.ntmps24
    go_wp2_with fail
    refine HE.out.mono ?_
    rintro e w1 ⟨rfl, hb1⟩
    have HW1 := Lib.hid hb1
    have HR1 := Lib.hid (HRS.out _ hb1)
    clear hb1 HRS
    go_wp2_with fail
    refine HR1.out.mono ?_
    rintro e w2 ⟨v, cs, rfl, ho, hb2⟩
    obtain ⟨A2, c2, rfl, _⟩ := ho.form
    have HW2 := Lib.hid (Base.Below.nextA HW1.out hb2)
    have HR2 := Lib.hid (HEX.out _ _ c2 HW2.out ho.rd)
    clear hb2 HR1 ho HEX
    go_wp2_with fail
    refine HR2.out.mono ?_
    rintro e w3 h3
    obtain ⟨v, rfl, hv, hb3⟩ := h3.is
    have HW3 := Lib.hid (Base.Below.nextA HW2.out hb3)
    have HF := Lib.hid (ratFraction w3 hv)
    obtain ⟨s, A1, k1, c1, A4, k4, c4, rfl, _⟩ := hv.open
    clear hv hb3 HR2 h3
    generalize numQ q = P at *
    generalize denQ q = Q at *
    generalize smallQ q = ok at *
    go_wp2_with fail
    refine HF.out.mono ?_
    rintro e w4 ⟨rfl, hb4⟩
    have HW4 := Base.Below.nextA HW3.out hb4
    have KRq := KR0.out.belowS HW4
    have HBq := Base.Below.nextA HB0.out HW4
    clear hb4 HF HW1 HW2 HW3 HW4 KR0 HB0 HE HX HY
    have z0 := (KRq).frz 0
    have z1 := (KRq).frz 1
    have c0 := (KRq).at 0 (v := .int .i64 0) rfl
    have c1 := (KRq).at 1 (v := .int .i64 0) rfl
    have HFIN := Lib.hid (fr_put (P := P) (Q := Q) (ok := ok) (HBq) (Nat.le_refl _))
    have SS := ((KRq).setTo 0 (.int .i64 P) rfl).setTo 1 (.int .i64 Q) rfl
    have s0 := SS.at 0 rfl
    have s1 := SS.at 1 rfl
    clear SS
    go_wp2
    refine bodyPost_ret (v := .tuple #[.agg #[.int .i64 P, .int .i64 Q], .bool ok]) (by simp [results, Tryz.results24, go_sem, s0, s1]) rfl ?_
    exact HFIN.out
set_option maxHeartbeats 1000000 in
theorem specExd_any (A A' : Option Addr) (c c' B n : Nat) (xs fs : List Int) (w : World) (hx : RdI w B A xs) (hy : RdF w B A' n fs) (hB : B ≤ w.heap.size) (hl : xs.length ≤ 1048576) (hn : n ≤ 1048576) :
    Calls Tryz.prog 22 #[.slice A xs.length c, .slice A' n c'] w (FrRet (exdP xs fs n) (exdQ xs fs n) (exdB xs fs n) w) := by
  have hb0 : Below w.heap.size w (w.alloc (.cells #[.int .i64 0, .int .i64 0] 43)) := (Below.refl _ _).alloc (Nat.le_refl _) _
  have KR0 : Hid (Blk (w.alloc (.cells #[.int .i64 0, .int .i64 0] 43)) w.heap.size 43 #[.int .i64 0, .int .i64 0]) := Lib.hid (Blk.new w _ _)
  have HB0 := Lib.hid hb0
  have HX := Lib.hid ((hx.below hb0 hB).more (Nat.le_trans hB hb0.size))
  have HY := Lib.hid ((hy.below hb0 hB).more (Nat.le_trans hB hb0.size))
  have HBS := Lib.hid (bitsS_any (c := c') _ HY.out (Nat.le_refl _) (by omega))
  have h4 := bitsQ_le fs n
  have HRW := Lib.hid (fun (h : bitsQ fs n ≠ 0) W (hb : Below (w.alloc (.cells #[.int .i64 0, .int .i64 0] 43)).heap.size (w.alloc (.cells #[.int .i64 0, .int .i64 0] 43)) W) => rowsS_any (c := c) (k := bitsQ fs n) W (HX.out.below hb (Nat.le_refl _)) (by omega) (by omega) h4)
  clear hx hy hb0
  by_cases h0 : bitsQ fs n = 0
  · have hf : isE xs fs n = false := by unfold isE; rw [h0]; rfl
    obtain ⟨e1, e2, e3⟩ := exd_no hf
    rw [h0] at HBS
    rw [e1, e2, e3]
    clear h0 hf e1 e2 e3 HRW
    go_enter Tryz.func22, Tryz.ntmps22
    go_wp2_with fail
    refine HBS.out.mono ?_
    rintro e w1 ⟨rfl, hb1⟩
    have KRq := KR0.out.belowS hb1
    have HBq := Base.Below.nextA HB0.out hb1
    clear hb1 KR0 HB0 HBS HX HY
    have z0 := (KRq).frz 0
    have z1 := (KRq).frz 1
    have c0 := (KRq).at 0 (v := .int .i64 0) rfl
    have c1 := (KRq).at 1 (v := .int .i64 0) rfl
    have HFIN := Lib.hid (fr_put (P := 0) (Q := 0) (ok := false) (HBq) (Nat.le_refl _))
    have SS := ((KRq).setTo 0 (.int .i64 0) rfl).setTo 1 (.int .i64 0) rfl
    have s0 := SS.at 0 rfl
    have s1 := SS.at 1 rfl
    clear SS
    go_wp2
    refine bodyPost_ret (v := .tuple #[.agg #[.int .i64 0, .int .i64 0], .bool false]) (by simp [results, Tryz.results22, go_sem, s0, s1]) rfl ?_
    exact HFIN.out
  have HRX := Lib.hid (HRW.out h0)
  have hk1 : 1 ≤ bitsQ fs n := by omega
  cases h : isE xs fs n with
  | false =>
    have hrow : (inR (xs.length : Int) 1 3 && AllIn.allInB xs 0 ((2 ^ bitsQ fs n : Nat) - 1 : Int)) = false := by
      unfold isE at h
      rwa [decide_eq_true h0, Bool.true_and] at h
    obtain ⟨e1, e2, e3⟩ := exd_no h
    rw [hrow] at HRX
    rw [e1, e2, e3]
    clear h e1 e2 e3 HRW h0 hrow
    generalize bitsQ fs n = k at *
    go_enter Tryz.func22, Tryz.ntmps22
    go_wp2_with fail
    refine HBS.out.mono ?_
    rintro e w1 ⟨rfl, hb1⟩
    have HW1 := Lib.hid hb1
    have HR1 := Lib.hid (HRX.out _ hb1)
    clear hb1 HRX
    go_wp2_with fail
    refine HR1.out.mono ?_
    rintro e w2 ⟨rfl, rfl⟩
    have KRq := KR0.out.belowS HW1.out
    have HBq := Base.Below.nextA HB0.out HW1.out
    clear HW1 HR1 KR0 HB0 HBS HX HY
    have z0 := (KRq).frz 0
    have z1 := (KRq).frz 1
    have c0 := (KRq).at 0 (v := .int .i64 0) rfl
    have c1 := (KRq).at 1 (v := .int .i64 0) rfl
    have HFIN := Lib.hid (fr_put (P := 0) (Q := 0) (ok := false) (HBq) (Nat.le_refl _))
    have SS := ((KRq).setTo 0 (.int .i64 0) rfl).setTo 1 (.int .i64 0) rfl
    have s0 := SS.at 0 rfl
    have s1 := SS.at 1 rfl
    clear SS
    go_wp2
    refine bodyPost_ret (v := .tuple #[.agg #[.int .i64 0, .int .i64 0], .bool false]) (by simp [results, Tryz.results22, go_sem, s0, s1]) rfl ?_
    exact HFIN.out
  | true =>
    obtain ⟨e1, e2, e3⟩ := exd_yes h
    obtain ⟨hv, h16, l1, l3, hr, _, q1, q2⟩ := isE_true h
    rw [q1, q2] at HRX
    rw [e1, e2, e3]
    have HEX := Lib.hid (fun W (hb : Below (w.alloc (.cells #[.int .i64 0, .int .i64 0] 43)).heap.size (w.alloc (.cells #[.int .i64 0, .int .i64 0] 43)) W) => farS_any (c := c') (c' := c) W (HY.out.below hb (Nat.le_refl _)) hb.size hv h16 (HX.out.below hb (Nat.le_refl _)) hb.size l1 l3 hr)
    clear h e1 e2 e3 hv hr HRW h0 q1 q2
    generalize bitsQ fs n = k at *
    generalize farQ xs fs n = q at *
    go_enter Tryz.func22, Tryz.ntmps22
    go_wp2_with fail
    refine HBS.out.mono ?_
    rintro e w1 ⟨rfl, hb1⟩
    have HW1 := Lib.hid hb1
    have HR1 := Lib.hid (HRX.out _ hb1)
    clear hb1 HRX
    go_wp2_with fail
    refine HR1.out.mono ?_
    rintro e w2 ⟨rfl, rfl⟩
    have HR2 := Lib.hid (HEX.out _ HW1.out)
    clear HEX HR1
    go_wp2_with fail
    refine HR2.out.mono ?_
    rintro e w3 ⟨v, rfl, hv, hb3⟩
    have HW3 := Lib.hid (Base.Below.nextA HW1.out hb3)
    have HF := Lib.hid (give_any w3 hv (by decide))
    unfold Fine.FRet at HF
    obtain ⟨s, A1, k1, c1, A2, k2, c2, fine, fn, fd, nn, dd, rfl, _⟩ := hv
    clear hb3 HR2
    generalize numQ q = P at *
    generalize denQ q = Q at *
    generalize smallQ q = ok at *
    go_wp2_with fail
    refine HF.out.mono ?_
    rintro e w4 ⟨rfl, hb4⟩
    have HW4 := Base.Below.nextA HW3.out hb4
    have KRq := KR0.out.belowS HW4
    have HBq := Base.Below.nextA HB0.out HW4
    clear hb4 HF HW1 HW3 HW4 KR0 HB0 HBS HX HY
    have z0 := (KRq).frz 0
    have z1 := (KRq).frz 1
    have c0 := (KRq).at 0 (v := .int .i64 0) rfl
    have c1 := (KRq).at 1 (v := .int .i64 0) rfl
    have HFIN := Lib.hid (fr_put (P := P) (Q := Q) (ok := ok) (HBq) (Nat.le_refl _))
    have SS := ((KRq).setTo 0 (.int .i64 P) rfl).setTo 1 (.int .i64 Q) rfl
    have s0 := SS.at 0 rfl
    have s1 := SS.at 1 rfl
    clear SS
    go_wp2
    refine bodyPost_ret (v := .tuple #[.agg #[.int .i64 P, .int .i64 Q], .bool ok]) (by simp [results, Tryz.results22, go_sem, s0, s1]) rfl ?_
    exact HFIN.out
/-! ### The law (lawgen2.py) -/
set_option maxHeartbeats 4000000 in
set_option maxRecDepth 100000 in
theorem exactExd_any (A0 : Option Addr) (c0 : Nat) (A1 : Option Addr) (c1 : Nat) (xs : List Int) (n : Nat) (fs : List Int) (w : World) (hl0 : xs.length ≤ 9223372036854775807) (hx0 : RdI w w.heap.size A0 xs) (hl1 : n ≤ 9223372036854775807) (hf1 : fs.length = 2 * n) (hx1 : MemF.RdF w w.heap.size A1 n fs) :
    Calls Tryz.prog 4 #[.slice A0 xs.length c0, .slice A1 n c1] w fun e w' => e = .returned (.bool true) ∧ Below w.heap.size w w' := by
  by_cases hb0 : xs.length ≤ 1048576
  case neg =>
    clear hx0
    clear hx1
    have hgt : (1048576 : Int) < (xs.length : Int) := by omega
    go_enter Tryz.func4, Tryz.ntmps4
    go_wp2
    go_ret
    exact ⟨rfl, Below.refl _ _⟩
  have HX0 := Lib.hid hx0
  have HX1 := Lib.hid hx1
  have HSZ1 := Lib.hid (fun k W hk hk2 => CpyF.szF_any A1 n c1 k W hl1 hk hk2)
  have HF1 := Lib.hid hf1
  clear hx0 hx1 hf1
  go_enter Tryz.func4, Tryz.ntmps4
  go_wp2_with fail
  refine (HSZ1.out 1048576 w (by omega) (by omega)).mono ?_
  rintro e w' ⟨r1, rfl, hr1, rfl⟩
  rcases hr1 with rfl | ⟨hr1a, hr1b⟩
  · go_wp2
    go_ret
    exact ⟨rfl, Below.refl _ _⟩
  have hb1 : n ≤ 1048576 := by omega
  clear hr1b
  have CT0 := Lib.hid (fun (W : World) (hW : Below w.heap.size w W) => toI_any A0 c0 w.heap.size xs W (HX0.out.below hW (Nat.le_refl _)) hW.size hb0)
  have CT1 := Lib.hid (fun (W : World) (hW : Below w.heap.size w W) => CpyF.toF_any A1 c1 w.heap.size n fs W (HX1.out.below hW (Nat.le_refl _)) hW.size hb1 HF1.out)
  have HS := Lib.hid (fun A c A' c' B W hx hy hB => specExd_any A A' c c' B n xs fs W hx hy hB hb0 hb1)
  have HI := Lib.hid (fun A c A' c' B W hx hy hB => implExd_any A A' c c' B n xs fs W hx hy hB hb0 hb1)
  generalize exdP xs fs n = P at *
  generalize exdQ xs fs n = Q at *
  generalize exdB xs fs n = ok at *
  have hok : (ok != ok) = false := by simp
  go_wp2_with fail
  refine (CT0.out _ (Below.refl _ _)).mono ?_
  rintro e w1 ⟨g_t0, rfl, o_t0, b_w1⟩
  have B_w1 := Lib.hid (b_w1)
  have hs_w1 := (b_w1).size
  have t0 := Lib.hid o_t0
  clear b_w1 o_t0
  go_wp2_with fail
  refine (CT1.out _ B_w1.out).mono ?_
  rintro e w2 ⟨g_t1, rfl, o_t1, b_w2⟩
  have B_w2 := Lib.hid (Base.Below.nextA B_w1.out b_w2)
  have t0_w2 := Lib.hid (t0.out.below b_w2)
  have hs_w2 := (b_w2).size
  have t1 := Lib.hid o_t1
  clear b_w2 o_t1
  go_wp2_with fail
  refine (HS.out _ _ _ _ w2.heap.size w2 t0_w2.out.rd t1.out.rd (Nat.le_refl _)).mono ?_
  rintro e w3 ⟨rfl, b_w3⟩
  have B_w3 := Lib.hid (Base.Below.nextA B_w2.out b_w3)
  have hs_w3 := (b_w3).size
  clear b_w3
  obtain ⟨w4, hw4⟩ : ∃ V, V = w3.alloc (.cells #[.int .i64 P, .int .i64 Q] 43) := ⟨_, rfl⟩
  have y_w4 : Below w3.heap.size w3 w4 := by rw [hw4]; exact (Below.refl _ _).alloc (Nat.le_refl _) _
  have K_s : Hid (Blk.Blk w4 w3.heap.size 43 #[.int .i64 P, .int .i64 Q]) := Lib.hid (by rw [hw4]; exact Blk.Blk.new _ _ _)
  have HV_w4 := Lib.hid hw4
  have B_w4 := Lib.hid (Base.Below.nextA B_w3.out y_w4)
  have hs_w4 := (y_w4).size
  clear hw4 y_w4
  go_wp2_with fail
  rw [← HV_w4.out]
  refine (CT0.out _ B_w4.out).mono ?_
  rintro e w5 ⟨g_x0, rfl, o_x0, b_w5⟩
  have B_w5 := Lib.hid (Base.Below.nextA B_w4.out b_w5)
  have K_s_w5 := Lib.hid (K_s.out.belowS b_w5)
  have hs_w5 := (b_w5).size
  have x0 := Lib.hid o_x0
  clear b_w5 o_x0
  go_wp2_with fail
  refine (CT1.out _ B_w5.out).mono ?_
  rintro e w6 ⟨g_x1, rfl, o_x1, b_w6⟩
  have B_w6 := Lib.hid (Base.Below.nextA B_w5.out b_w6)
  have K_s_w6 := Lib.hid (K_s_w5.out.belowS b_w6)
  have x0_w6 := Lib.hid (x0.out.below b_w6)
  have hs_w6 := (b_w6).size
  have x1 := Lib.hid o_x1
  clear b_w6 o_x1
  go_wp2_with fail
  refine (HI.out _ _ _ _ w6.heap.size w6 x0_w6.out.rd x1.out.rd (Nat.le_refl _)).mono ?_
  rintro e w7 ⟨rfl, b_w7⟩
  have B_w7 := Lib.hid (Base.Below.nextA B_w6.out b_w7)
  have K_s_w7 := Lib.hid (K_s_w6.out.belowS b_w7)
  have x0_w7 := Lib.hid (x0_w6.out.below b_w7)
  have x1_w7 := Lib.hid (x1.out.below b_w7)
  have hs_w7 := (b_w7).size
  clear b_w7
  have d0 := K_s_w7.out.at 0 (v := .int .i64 P) rfl
  have d1 := K_s_w7.out.at 1 (v := .int .i64 Q) rfl
  have hlt_w7 := K_s_w7.out.lt
  go_wp2_with fail
  refine (MemF.eqFraction_yes P Q _).mono ?_
  rintro e w8 ⟨rfl, x_w8⟩
  have x2_w8 := Base.Below.boxed x_w8
  have B_w8 := Lib.hid (Base.Below.nextA B_w7.out x2_w8)
  have K_s_w8 := Lib.hid (K_s_w7.out.belowS x2_w8)
  have x0_w8 := Lib.hid (x0_w7.out.below x2_w8)
  have x1_w8 := Lib.hid (x1_w7.out.below x2_w8)
  have hs_w8 := (x2_w8).size
  clear x_w8 x2_w8 d0 d1
  go_wp2_with fail
  refine (CT0.out _ B_w8.out).mono ?_
  rintro e w9 ⟨g_u0, rfl, o_u0, b_w9⟩
  have B_w9 := Lib.hid (Base.Below.nextA B_w8.out b_w9)
  have x0_w9 := Lib.hid (x0_w8.out.below b_w9)
  have x1_w9 := Lib.hid (x1_w8.out.below b_w9)
  have hs_w9 := (b_w9).size
  have u0 := Lib.hid o_u0
  clear b_w9 o_u0
  go_wp2_with fail
  refine (eqI_yes _ _ _ _ _ _ xs w9 x0_w9.out.rd u0.out.rd (by omega)).mono ?_
  rintro e w10 ⟨rfl, n_w10, e_w10⟩
  have x_w10 : Below w9.heap.size w9 w10 := by rw [e_w10]; exact below_drewN (Below.refl _ _) _
  clear e_w10
  have B_w10 := Lib.hid (Base.Below.nextA B_w9.out x_w10)
  have x0_w10 := Lib.hid (x0_w9.out.below x_w10)
  have x1_w10 := Lib.hid (x1_w9.out.below x_w10)
  have hs_w10 := (x_w10).size
  clear x_w10
  go_wp2_with fail
  refine (CT1.out _ B_w10.out).mono ?_
  rintro e w11 ⟨g_u1, rfl, o_u1, b_w11⟩
  have B_w11 := Lib.hid (Base.Below.nextA B_w10.out b_w11)
  have x0_w11 := Lib.hid (x0_w10.out.below b_w11)
  have x1_w11 := Lib.hid (x1_w10.out.below b_w11)
  have hs_w11 := (b_w11).size
  have u1 := Lib.hid o_u1
  clear b_w11 o_u1
  go_wp2_with fail
  refine (MemF.eqF_yes _ _ _ _ _ _ n fs w11 x1_w11.out.rd u1.out.rd (by omega) (by omega) (by omega)).mono ?_
  rintro e w12 ⟨rfl, x_w12⟩
  have B_w12 := Lib.hid (Base.Below.nextA B_w11.out x_w12)
  have x0_w12 := Lib.hid (x0_w11.out.below x_w12)
  have x1_w12 := Lib.hid (x1_w11.out.below x_w12)
  have hs_w12 := (x_w12).size
  clear x_w12
  go_wp2
  go_ret
  exact ⟨rfl, B_w12.out⟩
theorem exactExd_v {w : World} {u v : Value} (h : Open.IsInts w u) (h' : Open.IsFracs w v) : Calls Tryz.prog 4 #[u, v] w fun e w' => e = .returned (.bool true) ∧ Below w.heap.size w w' := by
  obtain ⟨A, c, xs, rfl, hl, _, hx⟩ := h.ex
  obtain ⟨A', n, c', fs, rfl, hn, hf, hy⟩ := h'.ex
  exact exactExd_any A c A' c' xs n fs w hl hx hn hf hy
end Go.Proofs.YtionognmgcabbaaGreat.ExdL
/- The row's last step where the world behind the call is known by 'Below' alone: the arguments read as they read before, whatever their types. -/
namespace Go.Proofs.YtionognmgcabbaaGreat.Frame
open Go.RowKit Go.WideShapes Go.ChangeShapes Go.Joins
set_option linter.unusedVariables false
theorem laidOut : laidOutB Tryz.prog = true := by kernel_rfl
theorem own : ownKnob Tryz.prog.godebug = none := by kernel_rfl
section
variable {H : Type} {enc : TypeId × Value → H} {P : Program}
theorem trodAll_below (hl : laidOutB P = true) {W W' : World} (hb : Below W.heap.size W W') :
    ∀ {ts : List TypeId} {vs : List Value} {ds : List (DataW H)} {ps : List MemPlace}, (ts.all fun t => P.readableRec t && decide (t < P.types.size)) = true →
      DataW.TrodAll enc P W 0 (fun _ => true) true ts vs ds ps → (∀ x ∈ ps, x.block < W.heap.size) → DataW.TrodAll enc P W' 0 (fun b => decide (b < W.heap.size)) true ts vs ds ps
  | [], vs, ds, ps, _, h, _ => by
    obtain ⟨rfl, rfl, rfl⟩ := trodAll_nil h
    exact trodAll_mk0
  | t :: ts, vs, ds, ps, hr, h, hlt => by
    simp only [List.all_cons, Bool.and_eq_true, decide_eq_true_eq] at hr
    obtain ⟨v, vs', d, ds', p, q, rfl, rfl, rfl, h0, h1⟩ := trodAll_cons h
    exact trodAll_cons_mk (Below.trod hl hr.1.1 hr.1.2 h0 hb fun x hx => hlt x (List.mem_append.2 (.inl hx))) (trodAll_below hl hb hr.2 h1 fun x hx => hlt x (List.mem_append.2 (.inr hx)))
theorem post_below {f : Func} {s : ChangeSpec} {apart fresh handsOn : Bool} {W W' : World} {args : Array Value} {v : Value} {ds : List (DataW H)} {before : List MemPlace}
    (hvars0 : s.vars = []) (hl : laidOutB P = true) (hr : (f.params.toList.all fun t => P.readableRec t && decide (t < P.types.size)) = true)
    (hW : DataW.Whole enc P f.params.toList s.vars apart W args.toList ds [] before)
    (hA : DataW.TrodAll enc P W 0 (fun _ => true) true f.params.toList args.toList ds before)
    (hargs : (s.fn H (ds ++ [])).args = ds) (hvars : (s.fn H (ds ++ [])).vars = [])
    (hres : ∀ (b : Nat) (sp : Nat → Bool) (hd : Bool), DataW.TrodAll enc P W' b sp hd f.resultTypes.toList (v.resultList f.resultTypes.size) (s.fn H (ds ++ [])).results [])
    (hb : Below W.heap.size W W') : s.post enc P f apart fresh handsOn false W args v W' := by
  have hlt : ∀ p ∈ before, p.block < W.heap.size := fun p hp => hW.lt p hp
  have hA' := trodAll_below (enc := enc) hl hb hr hA hlt
  refine ⟨ds, [], before, [], before, [], hW, hres _ _ _, ?_, ?_, World.keptBut_mono (fun p hp => ⟨hp, ?_⟩) (hb.frame (· ∈ before)), fun h => by cases h⟩
  · rw [hargs]; exact hA'
  · rw [hvars, hvars0]; exact rfl
  · right; simpa using hp
end
end Go.Proofs.YtionognmgcabbaaGreat.Frame

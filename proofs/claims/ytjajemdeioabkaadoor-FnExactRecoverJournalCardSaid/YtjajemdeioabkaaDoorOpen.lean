/- Openers: what is known of an argument's value. -/
import Derived.Test.YtjajemdeioabkaaDoorRows
import Derived.Test.YtjajemdeioabkaaDoorMem
import Derived.Deep.Matrix
import Derived.ProofKit
import Derived.OpenShut
import Derived.Lib.SmallJoins
namespace Go.Proofs.YtjajemdeioabkaaDoor.Open
open Go.ChangeShapes Go.WideShapes Go.ChangeAt Go.RowKit Go.Joins Go.Proofs.YtjajemdeioabkaaDoor
set_option linter.unusedVariables false
set_option maxRecDepth 100000
section
variable {H : Type} {enc : TypeId × Value → H} {w : World} {base b0 : Nat} {spare : Nat → Bool} {held : Bool} {v : Value} {d : DataW H} {p : List MemPlace}
theorem cellsCong : Tryd.prog.cellsOf 25 = 3 := by kernel_rfl

theorem s3_cong (hv : Value.okWide Tryd.prog w .any b0 25 v) (h : DataW.Trod enc Tryd.prog w base spare held 25 v d p) : ∃ a b c : Int, v = .agg #[.int .i64 a, .int .i64 b, .int .i64 c] := by
  obtain ⟨c0, c1, c2, y0, y1, y2, m, rfl, _, _, hy0, hy1, hy2⟩ := open_agg3 Tryd.underlying25 (by kernel_rfl) cellsCong hv h
  obtain ⟨a, e0, _, wa⟩ := DataW.trod_int Tryd.underlying2 hy0
  obtain ⟨b, e1, _, wb⟩ := DataW.trod_int Tryd.underlying2 hy1
  obtain ⟨c, e2, _, wc⟩ := DataW.trod_int Tryd.underlying2 hy2
  simp at e0 e1 e2
  subst e0 e1 e2
  exact ⟨a, b, c, rfl⟩
theorem cellsReg : Tryd.prog.cellsOf 23 = 2 := by kernel_rfl

theorem s2_reg (hv : Value.okWide Tryd.prog w .any b0 23 v) (h : DataW.Trod enc Tryd.prog w base spare held 23 v d p) : ∃ a b : Int, v = .agg #[.int .i64 a, .int .i64 b] := by
  obtain ⟨c0, c1, y0, y1, m, rfl, _, _, hy0, hy1⟩ := open_agg2 Tryd.underlying23 (by kernel_rfl) cellsReg hv h
  obtain ⟨a, e0, _, wa⟩ := DataW.trod_int Tryd.underlying2 hy0
  obtain ⟨b, e1, _, wb⟩ := DataW.trod_int Tryd.underlying2 hy1
  simp at e0 e1
  subst e0 e1
  exact ⟨a, b, rfl⟩
/-- one field of one int64 cell -/
theorem field_int {n : Nat} {fs : Array Field} {cs : List Value} {xs : List (DataW H × List MemPlace)} (hlen : xs.length = fs.size)
    (hg : ∀ (i : Nat) (f : Field), fs[i]? = some f → DataW.trod enc Tryd.prog w base spare held n f.type ((cs.drop f.offset).take (Tryd.prog.cellsOf f.type)) = xs[i]?)
    (i : Nat) (f : Field) (hf : fs[i]? = some f) (ht : f.type = 2) : ∃ a : Int, (cs.drop f.offset).take (Tryd.prog.cellsOf f.type) = [.int .i64 a] := by
  have h := hg i f hf
  have hi : i < xs.length := by rw [hlen]; exact (Array.getElem?_eq_some_iff.1 hf).1
  rw [List.getElem?_eq_getElem hi, ht] at h
  obtain ⟨a, e, _, _⟩ := DataW.trod_int Tryd.underlying2 h
  exact ⟨a, by rw [ht]; exact e⟩
theorem cells64 : Tryd.prog.cellsOf 2 = 1 := by kernel_rfl
theorem cellsReg' : Tryd.prog.cellsOf 23 = 2 := by kernel_rfl
theorem cellsCong' : Tryd.prog.cellsOf 25 = 3 := by kernel_rfl
theorem cellsStream : Tryd.prog.cellsOf 27 = 7 := by kernel_rfl
theorem reg_cells {n : Nat} {cs : List Value} {x : DataW H × List MemPlace} (h : DataW.trod enc Tryd.prog w base spare held n 23 cs = some x) : ∃ a b : Int, cs = [.int .i64 a, .int .i64 b] := by
  obtain ⟨xs, n', _, _, hl, hlen, hg⟩ := DataW.trod_struct Tryd.underlying23 h
  obtain ⟨a, e0⟩ := field_int hlen hg 0 _ rfl rfl
  obtain ⟨b, e1⟩ := field_int hlen hg 1 _ rfl rfl
  rw [cellsReg'] at hl
  match cs, hl with
  | [c0, c1], _ =>
    simp [cells64] at e0 e1
    exact ⟨a, b, by rw [e0, e1]⟩
theorem cong_cells {n : Nat} {cs : List Value} {x : DataW H × List MemPlace} (h : DataW.trod enc Tryd.prog w base spare held n 25 cs = some x) : ∃ a b c : Int, cs = [.int .i64 a, .int .i64 b, .int .i64 c] := by
  obtain ⟨xs, n', _, _, hl, hlen, hg⟩ := DataW.trod_struct Tryd.underlying25 h
  obtain ⟨a, e0⟩ := field_int hlen hg 0 _ rfl rfl
  obtain ⟨b, e1⟩ := field_int hlen hg 1 _ rfl rfl
  obtain ⟨c, e2⟩ := field_int hlen hg 2 _ rfl rfl
  rw [cellsCong'] at hl
  match cs, hl with
  | [c0, c1, c2], _ =>
    simp [cells64] at e0 e1 e2
    exact ⟨a, b, c, by rw [e0, e1, e2]⟩
theorem stream_cells {n : Nat} {cs : List Value} {x : DataW H × List MemPlace} (h : DataW.trod enc Tryd.prog w base spare held n 27 cs = some x) :
    ∃ K W T m f a s : Int, cs = [.int .i64 K, .int .i64 W, .int .i64 T, .int .i64 m, .int .i64 f, .int .i64 a, .int .i64 s] := by
  obtain ⟨xs, n', _, _, hl, hlen, hg⟩ := DataW.trod_struct Tryd.underlying27 h
  obtain ⟨K, e0⟩ := field_int hlen hg 0 _ rfl rfl
  obtain ⟨s, e3⟩ := field_int hlen hg 3 _ rfl rfl
  have h1 := hg 1 _ rfl
  have h2 := hg 2 _ rfl
  rw [cellsStream] at hl
  have l1 : 1 < xs.length := by rw [hlen]; decide
  have l2 : 2 < xs.length := by rw [hlen]; decide
  rw [List.getElem?_eq_getElem l1] at h1
  rw [List.getElem?_eq_getElem l2] at h2
  obtain ⟨W, T, e1⟩ := reg_cells h1
  obtain ⟨m, f, a, e2⟩ := cong_cells h2
  match cs, hl with
  | [c0, c1, c2, c3, c4, c5, c6], _ =>
    simp [cells64, cellsReg', cellsCong'] at e0 e1 e2 e3
    obtain ⟨e1a, e1b⟩ := e1
    obtain ⟨e2a, e2b, e2c⟩ := e2
    exact ⟨K, W, T, m, f, a, s, by rw [e0, e1a, e1b, e2a, e2b, e2c, e3]⟩
/-- a stream by value -/
structure IsStream (v : Value) : Prop where
  ex : ∃ K W T m f a s : Int, v = .agg #[.int .i64 K, .int .i64 W, .int .i64 T, .int .i64 m, .int .i64 f, .int .i64 a, .int .i64 s]
theorem stream (hv : Value.okWide Tryd.prog w .any b0 27 v) (h : DataW.Trod enc Tryd.prog w base spare held 27 v d p) : IsStream v := by
  obtain ⟨⟨cs⟩, rfl, hsz⟩ := okWide_struct Tryd.underlying27 hv
  obtain ⟨fuel, hf⟩ := h
  obtain ⟨K, W, T, m, f, a, s, e⟩ := stream_cells (cs := cs) (by simpa [Value.cells] using hf)
  exact ⟨K, W, T, m, f, a, s, by rw [e]⟩
theorem addr_add {a : Addr} (h : a.spot = none) (i : Nat) : a.add i = ⟨a.block, a.off + i, none⟩ := by
  obtain ⟨b, off, spot⟩ := a
  simp at h; subst h
  unfold Addr.add
  split <;> simp_all
theorem spot_of {a : Addr} {u : Value} (h : w.cell? (a.add 0) = some u) : a.spot = none ∧ a.block < w.heap.size := by
  have e : a.add 0 = a := by simp [Addr.add]
  rw [e] at h
  exact ⟨World.cell?_spot h, block_lt_of_cell h⟩
theorem cells8 : Tryd.prog.cellsOf 5 = 1 := by kernel_rfl
/-- an argument of bytes -/
structure IsBytes (w : World) (v : Value) : Prop where
  ex : ∃ (A : Option Addr) (c : Nat) (zs : List Int), v = .slice A zs.length c ∧ zs.length ≤ 9223372036854775807 ∧ (∀ z ∈ zs, 0 ≤ z ∧ z ≤ 255) ∧ Mem.RdB w w.heap.size A zs
theorem bytes (hv : Value.okWide Tryd.prog w .any b0 54 v) (h : DataW.Trod enc Tryd.prog w base (fun _ => true) held 54 v d p) : IsBytes w v := by
  obtain ⟨a, len, cap, rfl⟩ := okWide_slice Tryd.underlying54 hv
  obtain ⟨fuel, hf⟩ := h
  rcases open_ints Tryd.underlying54 Tryd.underlying5 cells8 hf with ⟨hcs, _⟩ | ⟨x, l, c, zs, hcs, _, hl, hm, hz, _, hcell, hwz⟩
  · simp [Value.cells] at hcs
    obtain ⟨rfl, rfl, rfl⟩ := hcs
    exact ⟨none, 0, [], rfl, by decide, by simp, fun h => absurd h (by simp)⟩
  · simp [Value.cells] at hcs
    obtain ⟨rfl, rfl, rfl⟩ := hcs
    simp only [if_true] at hz
    have hlen : (zs.take len).length = len := by rw [List.length_take]; omega
    refine ⟨some x, cap, zs.take len, by rw [hlen], ?_, fun z hzm => ?_, fun h0 => ?_⟩
    · rw [hlen]; unfold maxLen at hm; omega
    · have := hwz z (List.mem_of_mem_take hzm)
      simp [Lit.wf, IntKind.min, IntKind.max, IntKind.signed, IntKind.bits] at this
      omega
    · rw [hlen] at h0
      obtain ⟨hs, hb⟩ := spot_of (hcell 0 (by omega))
      refine ⟨x.block, x.off, by cases x; simp_all, hb, fun i hi => ?_⟩
      rw [hlen] at hi
      rw [← addr_add hs, hcell i (by omega)]
      simp [List.getD, hi]
theorem cellsI1 : Tryd.prog.cellsOf 2 = 1 := by kernel_rfl
/-- an argument of numbers -/
structure IsInts (w : World) (v : Value) : Prop where
  ex : ∃ (A : Option Addr) (c : Nat) (zs : List Int), v = .slice A zs.length c ∧ zs.length ≤ 9223372036854775807 ∧ (∀ z ∈ zs, -9223372036854775808 ≤ z ∧ z ≤ 9223372036854775807) ∧ Mem.RdI w w.heap.size A zs
theorem ints (hv : Value.okWide Tryd.prog w .any b0 77 v) (h : DataW.Trod enc Tryd.prog w base (fun _ => true) held 77 v d p) : IsInts w v := by
  obtain ⟨a, len, cap, rfl⟩ := okWide_slice Tryd.underlying77 hv
  obtain ⟨fuel, hf⟩ := h
  rcases open_ints Tryd.underlying77 Tryd.underlying2 cellsI1 hf with ⟨hcs, _⟩ | ⟨x, l, c, zs, hcs, _, hl, hm, hz, _, hcell, hwz⟩
  · simp [Value.cells] at hcs
    obtain ⟨rfl, rfl, rfl⟩ := hcs
    exact ⟨none, 0, [], rfl, by decide, by simp, fun h => absurd h (by simp)⟩
  · simp [Value.cells] at hcs
    obtain ⟨rfl, rfl, rfl⟩ := hcs
    simp only [if_true] at hz
    have hlen : (zs.take len).length = len := by rw [List.length_take]; omega
    refine ⟨some x, cap, zs.take len, by rw [hlen], ?_, fun z hzm => ?_, fun h0 => ?_⟩
    · rw [hlen]; unfold maxLen at hm; omega
    · have := hwz z (List.mem_of_mem_take hzm)
      simp [Lit.wf, IntKind.min, IntKind.max, IntKind.signed, IntKind.bits] at this
      omega
    · rw [hlen] at h0
      obtain ⟨hs, hb⟩ := spot_of (hcell 0 (by omega))
      refine ⟨x.block, x.off, by cases x; simp_all, hb, fun i hi => ?_⟩
      rw [hlen] at hi
      rw [← addr_add hs, hcell i (by omega)]
      simp [List.getD, hi]
end
end Go.Proofs.YtjajemdeioabkaaDoor.Open

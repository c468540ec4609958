/- Openers: what is known of an argument's value. -/
import Derived.Test.YtogadldnkhdjbaaDoorRows
import Derived.Test.YtogadldnkhdjbaaDoorMem
import Derived.Deep.Matrix
import Derived.ProofKit
import Derived.OpenShut
import Derived.Lib.SmallJoins
namespace Go.Proofs.YtogadldnkhdjbaaDoor.Open
open Go.ChangeShapes Go.WideShapes Go.ChangeAt Go.RowKit Go.Joins Go.Proofs.YtogadldnkhdjbaaDoor
set_option linter.unusedVariables false
set_option maxRecDepth 100000
section
variable {H : Type} {enc : TypeId × Value → H} {w : World} {base b0 : Nat} {spare : Nat → Bool} {held : Bool} {v : Value} {d : DataW H} {p : List MemPlace}
/-- one field of one int64 cell -/
theorem field_int {n : Nat} {fs : Array Field} {cs : List Value} {xs : List (DataW H × List MemPlace)} (hlen : xs.length = fs.size)
    (hg : ∀ (i : Nat) (f : Field), fs[i]? = some f → DataW.trod enc Tryd.prog w base spare held n f.type ((cs.drop f.offset).take (Tryd.prog.cellsOf f.type)) = xs[i]?)
    (i : Nat) (f : Field) (hf : fs[i]? = some f) (ht : f.type = 2) : ∃ a : Int, (cs.drop f.offset).take (Tryd.prog.cellsOf f.type) = [.int .i64 a] := by
  have h := hg i f hf
  have hi : i < xs.length := by rw [hlen]; exact (Array.getElem?_eq_some_iff.1 hf).1
  rw [List.getElem?_eq_getElem hi, ht] at h
  obtain ⟨a, e, _, _⟩ := DataW.trod_int Tryd.underlying2 h
  exact ⟨a, by rw [ht]; exact e⟩
theorem addr_add {a : Addr} (h : a.spot = none) (i : Nat) : a.add i = ⟨a.block, a.off + i, none⟩ := by
  obtain ⟨b, off, spot⟩ := a
  simp at h; subst h
  unfold Addr.add
  split <;> simp_all
theorem spot_of {a : Addr} {u : Value} (h : w.cell? (a.add 0) = some u) : a.spot = none ∧ a.block < w.heap.size := by
  have e : a.add 0 = a := by simp [Addr.add]
  rw [e] at h
  exact ⟨World.cell?_spot h, block_lt_of_cell h⟩
theorem cells8 : Tryd.prog.cellsOf 5 = 1 := by kernel_rfl
/-- an argument of bytes -/
structure IsBytes (w : World) (v : Value) : Prop where
  ex : ∃ (A : Option Addr) (c : Nat) (zs : List Int), v = .slice A zs.length c ∧ zs.length ≤ 9223372036854775807 ∧ (∀ z ∈ zs, 0 ≤ z ∧ z ≤ 255) ∧ Mem.RdB w w.heap.size A zs
theorem bytes (hv : Value.okWide Tryd.prog w .any b0 22 v) (h : DataW.Trod enc Tryd.prog w base (fun _ => true) held 22 v d p) : IsBytes w v := by
  obtain ⟨a, len, cap, rfl⟩ := okWide_slice Tryd.underlying22 hv
  obtain ⟨fuel, hf⟩ := h
  rcases open_ints Tryd.underlying22 Tryd.underlying5 cells8 hf with ⟨hcs, _⟩ | ⟨x, l, c, zs, hcs, _, hl, hm, hz, _, hcell, hwz⟩
  · simp [Value.cells] at hcs
    obtain ⟨rfl, rfl, rfl⟩ := hcs
    exact ⟨none, 0, [], rfl, by decide, by simp, fun h => absurd h (by simp)⟩
  · simp [Value.cells] at hcs
    obtain ⟨rfl, rfl, rfl⟩ := hcs
    simp only [if_true] at hz
    have hlen : (zs.take len).length = len := by rw [List.length_take]; omega
    refine ⟨some x, cap, zs.take len, by rw [hlen], ?_, fun z hzm => ?_, fun h0 => ?_⟩
    · rw [hlen]; unfold maxLen at hm; omega
    · have := hwz z (List.mem_of_mem_take hzm)
      simp [Lit.wf, IntKind.min, IntKind.max, IntKind.signed, IntKind.bits] at this
      omega
    · rw [hlen] at h0
      obtain ⟨hs, hb⟩ := spot_of (hcell 0 (by omega))
      refine ⟨x.block, x.off, by cases x; simp_all, hb, fun i hi => ?_⟩
      rw [hlen] at hi
      rw [← addr_add hs, hcell i (by omega)]
      simp [List.getD, hi]
theorem cellsI1 : Tryd.prog.cellsOf 2 = 1 := by kernel_rfl
/-- an argument of numbers -/
structure IsInts (w : World) (v : Value) : Prop where
  ex : ∃ (A : Option Addr) (c : Nat) (zs : List Int), v = .slice A zs.length c ∧ zs.length ≤ 9223372036854775807 ∧ (∀ z ∈ zs, -9223372036854775808 ≤ z ∧ z ≤ 9223372036854775807) ∧ Mem.RdI w w.heap.size A zs
theorem ints (hv : Value.okWide Tryd.prog w .any b0 75 v) (h : DataW.Trod enc Tryd.prog w base (fun _ => true) held 75 v d p) : IsInts w v := by
  obtain ⟨a, len, cap, rfl⟩ := okWide_slice Tryd.underlying75 hv
  obtain ⟨fuel, hf⟩ := h
  rcases open_ints Tryd.underlying75 Tryd.underlying2 cellsI1 hf with ⟨hcs, _⟩ | ⟨x, l, c, zs, hcs, _, hl, hm, hz, _, hcell, hwz⟩
  · simp [Value.cells] at hcs
    obtain ⟨rfl, rfl, rfl⟩ := hcs
    exact ⟨none, 0, [], rfl, by decide, by simp, fun h => absurd h (by simp)⟩
  · simp [Value.cells] at hcs
    obtain ⟨rfl, rfl, rfl⟩ := hcs
    simp only [if_true] at hz
    have hlen : (zs.take len).length = len := by rw [List.length_take]; omega
    refine ⟨some x, cap, zs.take len, by rw [hlen], ?_, fun z hzm => ?_, fun h0 => ?_⟩
    · rw [hlen]; unfold maxLen at hm; omega
    · have := hwz z (List.mem_of_mem_take hzm)
      simp [Lit.wf, IntKind.min, IntKind.max, IntKind.signed, IntKind.bits] at this
      omega
    · rw [hlen] at h0
      obtain ⟨hs, hb⟩ := spot_of (hcell 0 (by omega))
      refine ⟨x.block, x.off, by cases x; simp_all, hb, fun i hi => ?_⟩
      rw [hlen] at hi
      rw [← addr_add hs, hcell i (by omega)]
      simp [List.getD, hi]
end
end Go.Proofs.YtogadldnkhdjbaaDoor.Open

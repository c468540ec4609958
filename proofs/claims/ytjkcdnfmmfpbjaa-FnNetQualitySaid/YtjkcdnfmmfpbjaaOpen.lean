/- Openers: what is known of an argument's value. -/
import Derived.Test.YtjkcdnfmmfpbjaaRows
import Derived.Test.YtjkcdnfmmfpbjaaMem
import Derived.Deep.Matrix
import Derived.ProofKit
import Derived.OpenShut
import Derived.Lib.SmallJoins
namespace Go.Proofs.Ytjkcdnfmmfpbjaa.Open
open Go.ChangeShapes Go.WideShapes Go.ChangeAt Go.RowKit Go.Joins Go.Proofs.Ytjkcdnfmmfpbjaa
set_option linter.unusedVariables false
set_option maxRecDepth 100000
section
variable {H : Type} {enc : TypeId × Value → H} {w : World} {base b0 : Nat} {spare : Nat → Bool} {held : Bool} {v : Value} {d : DataW H} {p : List MemPlace}
/-- one field of one int64 cell -/
theorem field_int {n : Nat} {fs : Array Field} {cs : List Value} {xs : List (DataW H × List MemPlace)} (hlen : xs.length = fs.size)
    (hg : ∀ (i : Nat) (f : Field), fs[i]? = some f → DataW.trod enc Try.prog w base spare held n f.type ((cs.drop f.offset).take (Try.prog.cellsOf f.type)) = xs[i]?)
    (i : Nat) (f : Field) (hf : fs[i]? = some f) (ht : f.type = 2) : ∃ a : Int, (cs.drop f.offset).take (Try.prog.cellsOf f.type) = [.int .i64 a] := by
  have h := hg i f hf
  have hi : i < xs.length := by rw [hlen]; exact (Array.getElem?_eq_some_iff.1 hf).1
  rw [List.getElem?_eq_getElem hi, ht] at h
  obtain ⟨a, e, _, _⟩ := DataW.trod_int Try.underlying2 h
  exact ⟨a, by rw [ht]; exact e⟩
theorem addr_add {a : Addr} (h : a.spot = none) (i : Nat) : a.add i = ⟨a.block, a.off + i, none⟩ := by
  obtain ⟨b, off, spot⟩ := a
  simp at h; subst h
  unfold Addr.add
  split <;> simp_all
theorem spot_of {a : Addr} {u : Value} (h : w.cell? (a.add 0) = some u) : a.spot = none ∧ a.block < w.heap.size := by
  have e : a.add 0 = a := by simp [Addr.add]
  rw [e] at h
  exact ⟨World.cell?_spot h, block_lt_of_cell h⟩
theorem cells8 : Try.prog.cellsOf 5 = 1 := by kernel_rfl
/-- an argument of bytes -/
structure IsBytes (w : World) (v : Value) : Prop where
  ex : ∃ (A : Option Addr) (c : Nat) (zs : List Int), v = .slice A zs.length c ∧ zs.length ≤ 9223372036854775807 ∧ (∀ z ∈ zs, 0 ≤ z ∧ z ≤ 255) ∧ Mem.RdB w w.heap.size A zs
theorem bytes (hv : Value.okWide Try.prog w .any b0 38 v) (h : DataW.Trod enc Try.prog w base (fun _ => true) held 38 v d p) : IsBytes w v := by
  obtain ⟨a, len, cap, rfl⟩ := okWide_slice Try.underlying38 hv
  obtain ⟨fuel, hf⟩ := h
  rcases open_ints Try.underlying38 Try.underlying5 cells8 hf with ⟨hcs, _⟩ | ⟨x, l, c, zs, hcs, _, hl, hm, hz, _, hcell, hwz⟩
  · simp [Value.cells] at hcs
    obtain ⟨rfl, rfl, rfl⟩ := hcs
    exact ⟨none, 0, [], rfl, by decide, by simp, fun h => absurd h (by simp)⟩
  · simp [Value.cells] at hcs
    obtain ⟨rfl, rfl, rfl⟩ := hcs
    simp only [if_true] at hz
    have hlen : (zs.take len).length = len := by rw [List.length_take]; omega
    refine ⟨some x, cap, zs.take len, by rw [hlen], ?_, fun z hzm => ?_, fun h0 => ?_⟩
    · rw [hlen]; unfold maxLen at hm; omega
    · have := hwz z (List.mem_of_mem_take hzm)
      simp [Lit.wf, IntKind.min, IntKind.max, IntKind.signed, IntKind.bits] at this
      omega
    · rw [hlen] at h0
      obtain ⟨hs, hb⟩ := spot_of (hcell 0 (by omega))
      refine ⟨x.block, x.off, by cases x; simp_all, hb, fun i hi => ?_⟩
      rw [hlen] at hi
      rw [← addr_add hs, hcell i (by omega)]
      simp [List.getD, hi]
theorem cellsI1 : Try.prog.cellsOf 2 = 1 := by kernel_rfl
/-- an argument of numbers -/
structure IsInts (w : World) (v : Value) : Prop where
  ex : ∃ (A : Option Addr) (c : Nat) (zs : List Int), v = .slice A zs.length c ∧ zs.length ≤ 9223372036854775807 ∧ (∀ z ∈ zs, -9223372036854775808 ≤ z ∧ z ≤ 9223372036854775807) ∧ Mem.RdI w w.heap.size A zs
theorem ints (hv : Value.okWide Try.prog w .any b0 28 v) (h : DataW.Trod enc Try.prog w base (fun _ => true) held 28 v d p) : IsInts w v := by
  obtain ⟨a, len, cap, rfl⟩ := okWide_slice Try.underlying28 hv
  obtain ⟨fuel, hf⟩ := h
  rcases open_ints Try.underlying28 Try.underlying2 cellsI1 hf with ⟨hcs, _⟩ | ⟨x, l, c, zs, hcs, _, hl, hm, hz, _, hcell, hwz⟩
  · simp [Value.cells] at hcs
    obtain ⟨rfl, rfl, rfl⟩ := hcs
    exact ⟨none, 0, [], rfl, by decide, by simp, fun h => absurd h (by simp)⟩
  · simp [Value.cells] at hcs
    obtain ⟨rfl, rfl, rfl⟩ := hcs
    simp only [if_true] at hz
    have hlen : (zs.take len).length = len := by rw [List.length_take]; omega
    refine ⟨some x, cap, zs.take len, by rw [hlen], ?_, fun z hzm => ?_, fun h0 => ?_⟩
    · rw [hlen]; unfold maxLen at hm; omega
    · have := hwz z (List.mem_of_mem_take hzm)
      simp [Lit.wf, IntKind.min, IntKind.max, IntKind.signed, IntKind.bits] at this
      omega
    · rw [hlen] at h0
      obtain ⟨hs, hb⟩ := spot_of (hcell 0 (by omega))
      refine ⟨x.block, x.off, by cases x; simp_all, hb, fun i hi => ?_⟩
      rw [hlen] at hi
      rw [← addr_add hs, hcell i (by omega)]
      simp [List.getD, hi]
theorem cellsI : Try.prog.cellsOf 2 = 1 := by kernel_rfl
theorem cellsS : Try.prog.cellsOf 28 = 1 := by kernel_rfl
/-- an argument of lists of int64 -/
structure IsRows (w : World) (v : Value) : Prop where
  ex : ∃ (A : Option Addr) (c : Nat) (xss : List (List Int)), v = .slice A xss.length c ∧ xss.length ≤ 9223372036854775807 ∧ (∀ xs ∈ xss, xs.length ≤ 9223372036854775807) ∧ (∀ xs ∈ xss, ∀ x ∈ xs, -9223372036854775808 ≤ x ∧ x ≤ 9223372036854775807) ∧ Mem.RdII w w.heap.size A xss
theorem rows_of {fuel len cap : Nat} {a : Option Addr} {y : DataW H × List MemPlace} (hf : DataW.trod enc Try.prog w base (fun _ => true) held fuel 42 [.slice a len cap] = some y) : IsRows w (.slice a len cap) := by
  rcases Go.Deep.open_int_rows Try.underlying42 Try.underlying28 Try.underlying2 cellsS cellsI hf with ⟨hcs, _⟩ | ⟨x, l, c, A, L, C, Z, hcs, _, hl, hm, _, hr⟩
  · simp at hcs
    obtain ⟨rfl, rfl, rfl⟩ := hcs
    exact ⟨none, 0, [], rfl, by decide, by simp, by simp, fun h => absurd h (by simp)⟩
  · simp at hcs
    obtain ⟨rfl, rfl, rfl⟩ := hcs
    unfold maxLen at hm hr
    have hlen : ((List.range len).map fun r => (Z r).take (L r)).length = len := by simp
    refine ⟨some x, cap, (List.range len).map fun r => (Z r).take (L r), by rw [hlen], by rw [hlen]; omega, fun xs hxs => ?_, fun xs hxs y hy => ?_, fun h0 => ?_⟩
    · simp only [List.mem_map, List.mem_range] at hxs
      obtain ⟨r, hrl, rfl⟩ := hxs
      obtain ⟨_, h2, h3, h4, _⟩ := hr r (by omega)
      rw [List.length_take]; omega
    · simp only [List.mem_map, List.mem_range] at hxs
      obtain ⟨r, hrl, rfl⟩ := hxs
      obtain ⟨_, _, _, _, h5, _⟩ := hr r (by omega)
      have := h5 y (List.mem_of_mem_take hy)
      simp [Lit.wf, IntKind.min, IntKind.max, IntKind.signed, IntKind.bits] at this
      omega
    · rw [hlen] at h0
      obtain ⟨hs, hb⟩ := spot_of (hr 0 (by omega)).1
      refine ⟨x.block, x.off, by cases x; simp_all, hb, fun i hi => ?_⟩
      rw [hlen] at hi
      obtain ⟨h1, h2, h3, h4, _, h6, h7⟩ := hr i (by omega)
      have e : ((List.range len).map fun r => (Z r).take (L r)).getD i [] = (Z i).take (L i) := by simp [List.getD, hi]
      have el : ((Z i).take (L i)).length = L i := by rw [List.length_take]; omega
      rw [e, el]
      refine ⟨A i, C i, by rw [← addr_add hs]; exact h1, fun h0' => ?_⟩
      rw [el] at h0'
      rcases hA : A i with _ | a'
      · have := h6 hA; omega
      · obtain ⟨_, h8⟩ := h7 a' hA
        obtain ⟨hs', hb'⟩ := spot_of (h8 0 (by omega))
        refine ⟨a'.block, a'.off, by cases a'; simp_all, hb', fun j hj => ?_⟩
        rw [el] at hj
        rw [← addr_add hs', h8 j (by omega)]
        simp [List.getD, hj]
theorem rows (hv : Value.okWide Try.prog w .any b0 42 v) (h : DataW.Trod enc Try.prog w base (fun _ => true) held 42 v d p) : IsRows w v := by
  obtain ⟨a, len, cap, rfl⟩ := okWide_slice Try.underlying42 hv
  obtain ⟨fuel, hf⟩ := h
  exact rows_of (by simpa [Value.cells] using hf)
theorem cellsNet : Try.prog.cellsOf 55 = 2 := by kernel_rfl
theorem cellsLL : Try.prog.cellsOf 42 = 1 := by kernel_rfl
/-- a net by value -/
structure IsNet (w : World) (v : Value) : Prop where
  ex : ∃ (bits : Int) (A : Option Addr) (c : Nat) (xss : List (List Int)), v = .agg #[.int .i64 bits, .slice A xss.length c] ∧ xss.length ≤ 9223372036854775807 ∧ (∀ xs ∈ xss, xs.length ≤ 9223372036854775807) ∧ Mem.RdII w w.heap.size A xss
theorem slice_ok {fuel : Nat} {c1 : Value} {y : DataW H × List MemPlace} (hy : DataW.trod enc Try.prog w base (fun _ => true) held fuel 42 [c1] = some y) : IsRows w c1 := by
  rcases Go.Deep.open_int_rows Try.underlying42 Try.underlying28 Try.underlying2 cellsS cellsI hy with ⟨hcs, _⟩ | ⟨x, l, c, A, L, C, Z, hcs, _⟩
  · simp at hcs
    subst hcs
    exact rows_of hy
  · simp at hcs
    subst hcs
    exact rows_of hy
theorem net (hv : Value.okWide Try.prog w .any b0 55 v) (h : DataW.Trod enc Try.prog w base (fun _ => true) held 55 v d p) : IsNet w v := by
  obtain ⟨c0, c1, y0, y1, m, rfl, _, _, hy0, hy1⟩ := open_agg2 Try.underlying55 (by kernel_rfl) cellsNet hv h
  obtain ⟨a, e0, _, _⟩ := DataW.trod_int Try.underlying2 hy0
  simp at e0
  subst e0
  obtain ⟨A, c, xss, rfl, h1, h2, _, h4⟩ := (slice_ok hy1).ex
  exact ⟨a, A, c, xss, rfl, h1, h2, h4⟩
end
end Go.Proofs.Ytjkcdnfmmfpbjaa.Open

/- Openers for texts and lists of texts. -/
import Derived.Test.YtjajemdeioabkaaDoorOpen
import Derived.Test.YtjajemdeioabkaaDoorLabM
import Derived.Deep.Strs
namespace Go.Proofs.YtjajemdeioabkaaDoor.Open
open Go.ChangeShapes Go.WideShapes Go.ChangeAt Go.RowKit Go.Joins Go.Proofs.YtjajemdeioabkaaDoor
set_option linter.unusedVariables false
set_option maxRecDepth 100000
section
variable {H : Type} {enc : TypeId × Value → H} {w : World} {base b0 : Nat} {spare : Nat → Bool} {held : Bool} {v : Value} {d : DataW H} {p : List MemPlace}
theorem cellsTx : Tryd.prog.cellsOf 9 = 1 := by kernel_rfl
/-- an argument that is a list of texts -/
structure IsTexts (w : World) (v : Value) : Prop where
  ex : ∃ (A : Option Addr) (c : Nat) (ss : List ByteArray), v = .slice A ss.length c ∧ ss.length ≤ 9223372036854775807 ∧ (∀ i, i < ss.length → (ss.getD i ByteArray.empty).size ≤ 9223372036854775807) ∧ LabM.RdT w w.heap.size A ss
theorem txts_of {fuel : Nat} {c0 : Value} {y : DataW H × List MemPlace} (hf : DataW.trod enc Tryd.prog w base (fun _ => true) held fuel 36 [c0] = some y) : IsTexts w c0 := by
  rcases Go.Deep.open_strs Tryd.underlying36 Tryd.underlying9 cellsTx hf with ⟨hcs, _⟩ | ⟨x, len, cap, m, Sx, hcs, _, hl, hm, hmm, _, hcell⟩
  · simp at hcs
    subst hcs
    exact ⟨none, 0, [], rfl, by decide, fun i hi => absurd hi (Nat.not_lt_zero i), fun h => absurd h (by simp)⟩
  · simp at hcs
    subst hcs
    simp only [if_true] at hmm
    unfold maxLen at hm hcell
    refine ⟨some x, cap, (List.range len).map Sx, by simp, by simp; omega, fun i hi => ?_, fun h0 => ?_⟩
    · simp at hi
      have := (hcell i (by omega)).2
      simpa [List.getD, hi] using Nat.le_trans this (by omega)
    · simp at h0
      obtain ⟨hs, hb⟩ := spot_of (hcell 0 (by omega)).1
      refine ⟨x.block, x.off, by cases x; simp_all, hb, fun i hi => ?_⟩
      simp at hi
      rw [← addr_add hs, (hcell i (by omega)).1]
      simp [List.getD, hi]
theorem texts (hv : Value.okWide Tryd.prog w .any b0 36 v) (h : DataW.Trod enc Tryd.prog w base (fun _ => true) held 36 v d p) : IsTexts w v := by
  obtain ⟨a, len, cap, rfl⟩ := okWide_slice Tryd.underlying36 hv
  obtain ⟨fuel, hf⟩ := h
  exact txts_of (by simpa [Value.cells] using hf)
/-- an argument that is a text -/
structure IsText (w : World) (v : Value) : Prop where
  ex : ∃ s : ByteArray, v = .string s ∧ s.size ≤ 9223372036854775807
theorem string (hv : Value.okWide Tryd.prog w .any b0 9 v) (h : DataW.Trod enc Tryd.prog w base spare held 9 v d p) : IsText w v := by
  obtain ⟨s, rfl⟩ := okWide_string Tryd.underlying9 hv
  obtain ⟨fuel, hf⟩ := h
  obtain ⟨s', h, _, ws⟩ := DataW.trod_string Tryd.underlying9 hf
  simp [Value.cells] at h
  subst h
  exact ⟨s, rfl, by unfold maxLen at ws; omega⟩
end
end Go.Proofs.YtjajemdeioabkaaDoor.Open

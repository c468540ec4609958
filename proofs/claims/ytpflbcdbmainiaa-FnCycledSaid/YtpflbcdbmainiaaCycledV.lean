/- The cycles of a congruence: the law at whatever bytes. -/
import Derived.Test.YtpflbcdbmainiaaCycled
import Derived.Test.YtpflbcdbmainiaaOpen
namespace Go.Proofs.Ytpflbcdbmainiaa.Cycled
open Go.RowKit Go.Proofs.Ytpflbcdbmainiaa Go.Proofs.Ytpflbcdbmainiaa.Base Go.Proofs.Ytpflbcdbmainiaa.Mem
theorem cycled_v {w : World} {v u : Value} (h : Open.IsBytes w v) (h' : Open.IsBytes w u) : Calls Try.prog 3 #[v, u] w fun e w' => e = .returned (.bool true) ∧ Below w.heap.size w w' := by
  obtain ⟨A, c, zs, rfl, hl, hz, hx⟩ := h.ex
  obtain ⟨A', c', ys, rfl, _, _, _⟩ := h'.ex
  exact fnCycled_any A A' c c' w.heap.size zs ys w hx (Nat.le_refl _) hl hz
end Go.Proofs.Ytpflbcdbmainiaa.Cycled

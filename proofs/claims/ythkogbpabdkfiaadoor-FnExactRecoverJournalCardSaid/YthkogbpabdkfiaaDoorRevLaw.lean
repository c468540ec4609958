/- The law on the reversed net. -/
import Derived.Test.YthkogbpabdkfiaaDoorRevNet
import Derived.Test.YthkogbpabdkfiaaDoorNetLaw
namespace Go.Proofs.YthkogbpabdkfiaaDoor.RevNet
open Go.RowKit Go.Proofs.YthkogbpabdkfiaaDoor Go.Proofs.YthkogbpabdkfiaaDoor.Base Go.Proofs.YthkogbpabdkfiaaDoor.Mem Go.Proofs.YthkogbpabdkfiaaDoor.Pts Go.Proofs.YthkogbpabdkfiaaDoor.NetV
set_option linter.unusedVariables false

/-- no net: the empty one -/
def NoNet (w : World) (e : Ending) (w' : World) : Prop := e = .returned (.tuple #[.agg #[.int .i64 0, .slice none 0 0], .bool false]) ∧ Below w.heap.size w w'
theorem block_lt {w : World} {g : Nat} {o : Obj} (h : w.heap[g]? = some o) : g < w.heap.size := by
  rcases Nat.lt_or_ge g w.heap.size with hlt | hge
  · exact hlt
  · rw [Array.getElem?_eq_none hge] at h; cases h
theorem notInts_below {w w' : World} (h : Below w.heap.size w w') : NotInts w w' := fun g cur t hg _ => (h.block g (block_lt hg)).trans hg
end Go.Proofs.YthkogbpabdkfiaaDoor.RevNet

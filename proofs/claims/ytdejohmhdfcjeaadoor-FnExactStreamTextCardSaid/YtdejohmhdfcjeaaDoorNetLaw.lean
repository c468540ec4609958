/- The laws' copies and comparisons of nets; the law of ValidNet. -/
import Derived.Test.YtdejohmhdfcjeaaDoorNetV
import Derived.Test.YtdejohmhdfcjeaaDoorCopy
import Derived.Test.YtdejohmhdfcjeaaDoorOpen
import Derived.Deep.RegionWith
namespace Go.Proofs.YtdejohmhdfcjeaaDoor.NetV
open Go.RowKit Go.Proofs.YtdejohmhdfcjeaaDoor Go.Proofs.YtdejohmhdfcjeaaDoor.Base Go.Proofs.YtdejohmhdfcjeaaDoor.Mem Go.Proofs.YtdejohmhdfcjeaaDoor.Cpy
set_option linter.unusedVariables false

def ToNetRet (bits : Int) (xss : List (List Int)) (w : World) (e : Ending) (w' : World) : Prop :=
  ∃ g us, e = .returned (.agg #[.int .i64 bits, .slice (some ⟨g, 0, none⟩) xss.length xss.length]) ∧ OwnII w' w.heap.size (.slice (some ⟨g, 0, none⟩) xss.length xss.length) xss us ∧ Below w.heap.size w w'
end Go.Proofs.YtdejohmhdfcjeaaDoor.NetV

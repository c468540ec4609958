/- The laws' copies and comparisons of nets; the law of ValidNet. -/
import Derived.Test.YtjajemdeioabkaaDoorNetV
import Derived.Test.YtjajemdeioabkaaDoorCopy
import Derived.Test.YtjajemdeioabkaaDoorOpen
import Derived.Deep.RegionWith
namespace Go.Proofs.YtjajemdeioabkaaDoor.NetV
open Go.RowKit Go.Proofs.YtjajemdeioabkaaDoor Go.Proofs.YtjajemdeioabkaaDoor.Base Go.Proofs.YtjajemdeioabkaaDoor.Mem Go.Proofs.YtjajemdeioabkaaDoor.Cpy
set_option linter.unusedVariables false

def ToNetRet (bits : Int) (xss : List (List Int)) (w : World) (e : Ending) (w' : World) : Prop :=
  ∃ g us, e = .returned (.agg #[.int .i64 bits, .slice (some ⟨g, 0, none⟩) xss.length xss.length]) ∧ OwnII w' w.heap.size (.slice (some ⟨g, 0, none⟩) xss.length xss.length) xss us ∧ Below w.heap.size w w'
end Go.Proofs.YtjajemdeioabkaaDoor.NetV

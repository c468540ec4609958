/- The laws' copies and comparisons of nets; the law of ValidNet. -/
import Derived.Test.YtogadldnkhdjbaaDoorNetV
import Derived.Test.YtogadldnkhdjbaaDoorCopy
import Derived.Test.YtogadldnkhdjbaaDoorOpen
import Derived.Deep.RegionWith
namespace Go.Proofs.YtogadldnkhdjbaaDoor.NetV
open Go.RowKit Go.Proofs.YtogadldnkhdjbaaDoor Go.Proofs.YtogadldnkhdjbaaDoor.Base Go.Proofs.YtogadldnkhdjbaaDoor.Mem Go.Proofs.YtogadldnkhdjbaaDoor.Cpy
set_option linter.unusedVariables false

def ToNetRet (bits : Int) (xss : List (List Int)) (w : World) (e : Ending) (w' : World) : Prop :=
  ∃ g us, e = .returned (.agg #[.int .i64 bits, .slice (some ⟨g, 0, none⟩) xss.length xss.length]) ∧ OwnII w' w.heap.size (.slice (some ⟨g, 0, none⟩) xss.length xss.length) xss us ∧ Below w.heap.size w w'
end Go.Proofs.YtogadldnkhdjbaaDoor.NetV

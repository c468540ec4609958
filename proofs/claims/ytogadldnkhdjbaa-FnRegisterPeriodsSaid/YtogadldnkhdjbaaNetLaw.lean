/- The laws' copies and comparisons of nets; the law of ValidNet. -/
import Derived.Test.YtogadldnkhdjbaaNetV
import Derived.Test.YtogadldnkhdjbaaCopy
import Derived.Test.YtogadldnkhdjbaaOpen
import Derived.Deep.RegionWith
namespace Go.Proofs.Ytogadldnkhdjbaa.NetV
open Go.RowKit Go.Proofs.Ytogadldnkhdjbaa Go.Proofs.Ytogadldnkhdjbaa.Base Go.Proofs.Ytogadldnkhdjbaa.Mem Go.Proofs.Ytogadldnkhdjbaa.Cpy
set_option linter.unusedVariables false

def ToNetRet (bits : Int) (xss : List (List Int)) (w : World) (e : Ending) (w' : World) : Prop :=
  ∃ g us, e = .returned (.agg #[.int .i64 bits, .slice (some ⟨g, 0, none⟩) xss.length xss.length]) ∧ OwnII w' w.heap.size (.slice (some ⟨g, 0, none⟩) xss.length xss.length) xss us ∧ Below w.heap.size w w'
end Go.Proofs.Ytogadldnkhdjbaa.NetV

/- The program's congruence: validity, a step, the cycle of states. -/
import Derived.Test.YthkogbpabdkfiaaDoorCongSpec
namespace Go.Proofs.YthkogbpabdkfiaaDoor.Cong
open Go.RowKit Go.Proofs.YthkogbpabdkfiaaDoor Go.Proofs.YthkogbpabdkfiaaDoor.Base
set_option linter.unusedVariables false

end Go.Proofs.YthkogbpabdkfiaaDoor.Cong

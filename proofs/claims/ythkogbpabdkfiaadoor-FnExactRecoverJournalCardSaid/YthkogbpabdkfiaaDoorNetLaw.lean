/- The laws' copies and comparisons of nets; the law of ValidNet. -/
import Derived.Test.YthkogbpabdkfiaaDoorNetV
import Derived.Test.YthkogbpabdkfiaaDoorCopy
import Derived.Test.YthkogbpabdkfiaaDoorOpen
import Derived.Deep.RegionWith
namespace Go.Proofs.YthkogbpabdkfiaaDoor.NetV
open Go.RowKit Go.Proofs.YthkogbpabdkfiaaDoor Go.Proofs.YthkogbpabdkfiaaDoor.Base Go.Proofs.YthkogbpabdkfiaaDoor.Mem Go.Proofs.YthkogbpabdkfiaaDoor.Cpy
set_option linter.unusedVariables false

end Go.Proofs.YthkogbpabdkfiaaDoor.NetV

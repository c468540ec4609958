/- Streams: validity, of the program and of the reference; the law. -/
import Derived.Test.YthkogbpabdkfiaaDoorRegImpl
import Derived.Test.YthkogbpabdkfiaaDoorCongLaw
import Derived.Test.YthkogbpabdkfiaaDoorOpen
import Derived.Laws.StructEq
namespace Go.Proofs.YthkogbpabdkfiaaDoor.Str
open Go.RowKit Go.Proofs.YthkogbpabdkfiaaDoor Go.Proofs.YthkogbpabdkfiaaDoor.Base
set_option linter.unusedVariables false

def zc (m f a : Int) : Bool := m == 0 && (f == 0 && a == 0)
def zr (W T : Int) : Bool := W == 0 && T == 0
def streamB (K W T m f a s : Int) : Bool := if K = 0 then zc m f a && Reg.bothR W T s else if K = 1 then zr W T && Cong.bothB m f a s else false

end Go.Proofs.YthkogbpabdkfiaaDoor.Str

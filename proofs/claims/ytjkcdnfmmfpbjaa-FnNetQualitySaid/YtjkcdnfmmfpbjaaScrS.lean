/- A net whose side is mixed, of the reference. -/
import Derived.Test.YtjkcdnfmmfpbjaaScrW
namespace Go.Proofs.Ytjkcdnfmmfpbjaa.Scr
open Go.RowKit Go.Proofs.Ytjkcdnfmmfpbjaa Go.Proofs.Ytjkcdnfmmfpbjaa.Base Go.Proofs.Ytjkcdnfmmfpbjaa.Mem Go.Proofs.Ytjkcdnfmmfpbjaa.AllIn Go.Proofs.Ytjkcdnfmmfpbjaa.Pts Go.Proofs.Ytjkcdnfmmfpbjaa.NetV Go.Proofs.Ytjkcdnfmmfpbjaa.RevNet Go.Proofs.Ytjkcdnfmmfpbjaa.Bits Go.Proofs.Ytjkcdnfmmfpbjaa.Shift Go.Proofs.Ytjkcdnfmmfpbjaa.DrawN
set_option linter.unusedVariables false
end Go.Proofs.Ytjkcdnfmmfpbjaa.Scr

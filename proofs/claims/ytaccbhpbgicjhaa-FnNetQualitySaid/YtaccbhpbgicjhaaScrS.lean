/- A net whose side is mixed, of the reference. -/
import Derived.Test.YtaccbhpbgicjhaaScrW
namespace Go.Proofs.Ytaccbhpbgicjhaa.Scr
open Go.RowKit Go.Proofs.Ytaccbhpbgicjhaa Go.Proofs.Ytaccbhpbgicjhaa.Base Go.Proofs.Ytaccbhpbgicjhaa.Mem Go.Proofs.Ytaccbhpbgicjhaa.AllIn Go.Proofs.Ytaccbhpbgicjhaa.Pts Go.Proofs.Ytaccbhpbgicjhaa.NetV Go.Proofs.Ytaccbhpbgicjhaa.RevNet Go.Proofs.Ytaccbhpbgicjhaa.Bits Go.Proofs.Ytaccbhpbgicjhaa.Shift Go.Proofs.Ytaccbhpbgicjhaa.DrawN
set_option linter.unusedVariables false
end Go.Proofs.Ytaccbhpbgicjhaa.Scr

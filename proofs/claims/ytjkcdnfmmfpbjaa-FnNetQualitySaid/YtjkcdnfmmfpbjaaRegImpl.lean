/- The program's register: validity, a step, the cycle of states; the law of RegisterCycle. -/
import Derived.Test.YtjkcdnfmmfpbjaaRegSpec
namespace Go.Proofs.Ytjkcdnfmmfpbjaa.Reg
open Go.RowKit Go.Proofs.Ytjkcdnfmmfpbjaa Go.Proofs.Ytjkcdnfmmfpbjaa.Base Go.Proofs.Ytjkcdnfmmfpbjaa.Bits
set_option linter.unusedVariables false

theorem nextR_int' {W T x : Nat} (hW : 1 ≤ W) (hW2 : W ≤ 16) (hx : x < 2 ^ W) : bits .or .i64 ((x : Int) / 2) (wrap64 ((PopM.par (T &&& x) : Int) * (2 : Int) ^ (W - 1))) = ((nextR W T x : Nat) : Int) := by
  rw [Nat.and_comm]; exact nextR_int hW hW2 hx

def StepRetI (W T x : Nat) (w : World) (e : Ending) (w' : World) : Prop := e = .returned (.tuple #[.int .i64 (nextR W T x : Nat), .int .i64 (x % 2 : Nat)]) ∧ Below w.heap.size w w'
end Go.Proofs.Ytjkcdnfmmfpbjaa.Reg

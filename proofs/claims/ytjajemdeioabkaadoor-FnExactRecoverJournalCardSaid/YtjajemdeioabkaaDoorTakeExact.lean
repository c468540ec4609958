/- TakeBits: the exact law. -/
import Derived.Test.YtjajemdeioabkaaDoorTakeLaw
namespace Go.Proofs.YtjajemdeioabkaaDoor.Take
open Go.RowKit Go.Proofs.YtjajemdeioabkaaDoor Go.Proofs.YtjajemdeioabkaaDoor.Base Go.Proofs.YtjajemdeioabkaaDoor.Mem Go.Proofs.YtjajemdeioabkaaDoor.Reg Go.Proofs.YtjajemdeioabkaaDoor.Str
set_option linter.unusedVariables false
theorem tb_val (K W T m f a s c : Int) : ∃ (str : ByteArray) (K' W' T' m' f' a' s' : Int) (r : Bool), ∀ (w : World) (e : Ending) (w' : World), TBRet K W T m f a s c w e w' → e = .returned (.tuple #[.string str, .agg #[.int .i64 K', .int .i64 W', .int .i64 T', .int .i64 m', .int .i64 f', .int .i64 a', .int .i64 s'], .bool r]) ∧ Below w.heap.size w w' := by
  cases h : okB K W T m f a s c with
  | false => exact ⟨⟨#[]⟩, 0, 0, 0, 0, 0, 0, 0, false, fun w e w' hr => ⟨hr.2.1 h, hr.2.2⟩⟩
  | true => exact ⟨_, _, _, _, _, _, _, _, _, fun w e w' hr => ⟨hr.1 h, hr.2.2⟩⟩
end Go.Proofs.YtjajemdeioabkaaDoor.Take

/- TakeBits, of the program and of the reference; the law. -/
import Derived.Test.YtjajemdeioabkaaDoorTake
namespace Go.Proofs.YtjajemdeioabkaaDoor.Take
open Go.RowKit Go.Proofs.YtjajemdeioabkaaDoor Go.Proofs.YtjajemdeioabkaaDoor.Base Go.Proofs.YtjajemdeioabkaaDoor.Mem Go.Proofs.YtjajemdeioabkaaDoor.Reg Go.Proofs.YtjajemdeioabkaaDoor.Str
set_option linter.unusedVariables false
def okB (K W T m f a s c : Int) : Bool := streamB K W T m f a s && inR c 0 400
def TBRet (K W T m f a s c : Int) (w : World) (e : Ending) (w' : World) : Prop :=
  (okB K W T m f a s c = true → e = .returned (.tuple #[.string ⟨(takeL K W T m f a s c).toArray⟩, .agg #[.int .i64 K, .int .i64 W, .int .i64 T, .int .i64 m, .int .i64 f, .int .i64 a, .int .i64 (takeX K W T m f a s c)], .bool true])) ∧
  (okB K W T m f a s c = false → e = .returned (.tuple #[.string ⟨#[]⟩, .agg #[.int .i64 0, .int .i64 0, .int .i64 0, .int .i64 0, .int .i64 0, .int .i64 0, .int .i64 0], .bool false])) ∧ Below w.heap.size w w'
theorem TBRet.no {K W T m f a s c : Int} {w w' : World} {e : Ending} (h : okB K W T m f a s c = false) (he : e = .returned (.tuple #[.string ⟨#[]⟩, .agg #[.int .i64 0, .int .i64 0, .int .i64 0, .int .i64 0, .int .i64 0, .int .i64 0, .int .i64 0], .bool false])) (hb : Below w.heap.size w w') : TBRet K W T m f a s c w e w' :=
  ⟨fun h2 => (by rw [h] at h2; cases h2), fun _ => he, hb⟩
theorem TBRet.yes {K W T m f a s c : Int} {w w' : World} {e : Ending} (h : okB K W T m f a s c = true) (he : e = .returned (.tuple #[.string ⟨(takeL K W T m f a s c).toArray⟩, .agg #[.int .i64 K, .int .i64 W, .int .i64 T, .int .i64 m, .int .i64 f, .int .i64 a, .int .i64 (takeX K W T m f a s c)], .bool true])) (hb : Below w.heap.size w w') : TBRet K W T m f a s c w e w' :=
  ⟨fun _ => he, fun h2 => (by rw [h] at h2; cases h2), hb⟩
end Go.Proofs.YtjajemdeioabkaaDoor.Take

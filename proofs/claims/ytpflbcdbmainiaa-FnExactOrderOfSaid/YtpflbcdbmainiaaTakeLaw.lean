/- TakeBits, of the program and of the reference; the law. -/
import Derived.Test.YtpflbcdbmainiaaTake
namespace Go.Proofs.Ytpflbcdbmainiaa.Take
open Go.RowKit Go.Proofs.Ytpflbcdbmainiaa Go.Proofs.Ytpflbcdbmainiaa.Base Go.Proofs.Ytpflbcdbmainiaa.Mem Go.Proofs.Ytpflbcdbmainiaa.Reg Go.Proofs.Ytpflbcdbmainiaa.Str
set_option linter.unusedVariables false
theorem implTake_yes {K W T m f a s c : Int} (hB : streamB K W T m f a s = true) (hc : inR c 0 400 = true) (w : World) : Calls Try.prog 150 #[.agg #[.int .i64 K, .int .i64 W, .int .i64 T, .int .i64 m, .int .i64 f, .int .i64 a, .int .i64 s], .int .i64 c] w (TakeR K W T m f a s c w) := by
  obtain ⟨X, N, rfl, rfl, hN, ⟨rfl, V, A, rfl, rfl, hV, hA, hX⟩ | ⟨rfl, M, F, A, rfl, rfl, rfl, h1, h2, h3, h4, h5⟩⟩ := nats hB hc
  · exact implTake_reg V A X N m f a w hV hA hX hN
  · exact implTake_con M F A X N W T w h1 h2 h3 h4 h5 hN
def okB (K W T m f a s c : Int) : Bool := streamB K W T m f a s && inR c 0 400
def TBRet (K W T m f a s c : Int) (w : World) (e : Ending) (w' : World) : Prop :=
  (okB K W T m f a s c = true → e = .returned (.tuple #[.string ⟨(takeL K W T m f a s c).toArray⟩, .agg #[.int .i64 K, .int .i64 W, .int .i64 T, .int .i64 m, .int .i64 f, .int .i64 a, .int .i64 (takeX K W T m f a s c)], .bool true])) ∧
  (okB K W T m f a s c = false → e = .returned (.tuple #[.string ⟨#[]⟩, .agg #[.int .i64 0, .int .i64 0, .int .i64 0, .int .i64 0, .int .i64 0, .int .i64 0, .int .i64 0], .bool false])) ∧ Below w.heap.size w w'
theorem TBRet.no {K W T m f a s c : Int} {w w' : World} {e : Ending} (h : okB K W T m f a s c = false) (he : e = .returned (.tuple #[.string ⟨#[]⟩, .agg #[.int .i64 0, .int .i64 0, .int .i64 0, .int .i64 0, .int .i64 0, .int .i64 0, .int .i64 0], .bool false])) (hb : Below w.heap.size w w') : TBRet K W T m f a s c w e w' :=
  ⟨fun h2 => (by rw [h] at h2; cases h2), fun _ => he, hb⟩
theorem TBRet.yes {K W T m f a s c : Int} {w w' : World} {e : Ending} (h : okB K W T m f a s c = true) (he : e = .returned (.tuple #[.string ⟨(takeL K W T m f a s c).toArray⟩, .agg #[.int .i64 K, .int .i64 W, .int .i64 T, .int .i64 m, .int .i64 f, .int .i64 a, .int .i64 (takeX K W T m f a s c)], .bool true])) (hb : Below w.heap.size w w') : TBRet K W T m f a s c w e w' :=
  ⟨fun _ => he, fun h2 => (by rw [h] at h2; cases h2), hb⟩
end Go.Proofs.Ytpflbcdbmainiaa.Take

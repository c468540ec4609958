/- The law on the reversed net. -/
import Derived.Test.YtjajemdeioabkaaDoorRevNet
import Derived.Test.YtjajemdeioabkaaDoorNetLaw
namespace Go.Proofs.YtjajemdeioabkaaDoor.RevNet
open Go.RowKit Go.Proofs.YtjajemdeioabkaaDoor Go.Proofs.YtjajemdeioabkaaDoor.Base Go.Proofs.YtjajemdeioabkaaDoor.Mem Go.Proofs.YtjajemdeioabkaaDoor.Pts Go.Proofs.YtjajemdeioabkaaDoor.NetV
set_option linter.unusedVariables false

/-- no net: the empty one -/
def NoNet (w : World) (e : Ending) (w' : World) : Prop := e = .returned (.tuple #[.agg #[.int .i64 0, .slice none 0 0], .bool false]) ∧ Below w.heap.size w w'
theorem block_lt {w : World} {g : Nat} {o : Obj} (h : w.heap[g]? = some o) : g < w.heap.size := by
  rcases Nat.lt_or_ge g w.heap.size with hlt | hge
  · exact hlt
  · rw [Array.getElem?_eq_none hge] at h; cases h
theorem notInts_below {w w' : World} (h : Below w.heap.size w w') : NotInts w w' := fun g cur t hg _ => (h.block g (block_lt hg)).trans hg
/-- a net made, of these numbers -/
def GNetRet (bits : Int) (ok : Bool) (xss : List (List Int)) (w : World) (e : Ending) (w' : World) : Prop :=
  ∃ A c us, e = .returned (.tuple #[.agg #[.int .i64 bits, .slice A xss.length c], .bool ok]) ∧ OwnII w' w.heap.size (.slice A xss.length c) xss us ∧ Below w.heap.size w w'
theorem GNetRet.of_no {w : World} {e : Ending} {w' : World} (h : NoNet w e w') : GNetRet 0 false [] w e w' := ⟨none, 0, [], h.1, OwnII.nil _ _, h.2⟩
theorem GNetRet.of_rev {n : Nat} {w : World} {e : Ending} {w' : World} (h : RevRet n w e w') : GNetRet n true [revL n, unitL n] w e w' := by
  obtain ⟨g, us, h1, h2, h3⟩ := h
  exact ⟨some ⟨g, 0, none⟩, 2, us, h1, h2, h3⟩
end Go.Proofs.YtjajemdeioabkaaDoor.RevNet

/- The law on the reversed net. -/
import Derived.Test.YtpflbcdbmainiaaRevNet
import Derived.Test.YtpflbcdbmainiaaNetLaw
namespace Go.Proofs.Ytpflbcdbmainiaa.RevNet
open Go.RowKit Go.Proofs.Ytpflbcdbmainiaa Go.Proofs.Ytpflbcdbmainiaa.Base Go.Proofs.Ytpflbcdbmainiaa.Mem Go.Proofs.Ytpflbcdbmainiaa.Pts Go.Proofs.Ytpflbcdbmainiaa.NetV
set_option linter.unusedVariables false

/-- no net: the empty one -/
def NoNet (w : World) (e : Ending) (w' : World) : Prop := e = .returned (.tuple #[.agg #[.int .i64 0, .slice none 0 0], .bool false]) ∧ Below w.heap.size w w'
theorem block_lt {w : World} {g : Nat} {o : Obj} (h : w.heap[g]? = some o) : g < w.heap.size := by
  rcases Nat.lt_or_ge g w.heap.size with hlt | hge
  · exact hlt
  · rw [Array.getElem?_eq_none hge] at h; cases h
theorem notInts_below {w w' : World} (h : Below w.heap.size w w') : NotInts w w' := fun g cur t hg _ => (h.block g (block_lt hg)).trans hg
/-- a box with a net in it -/
def Box (w : World) (g : Nat) (bits : Int) (v : Value) : Prop := w.heap[g]? = some (.cells #[.int .i64 bits, v] 57 (0, 0))
theorem Box.new (w : World) (bits : Int) (v : Value) : Box (w.alloc (.cells #[.int .i64 bits, v] 57)) w.heap.size bits v := by
  unfold Box
  show (w.heap.push _)[w.heap.size]? = _
  simp
theorem Box.lt {w : World} {g : Nat} {bits : Int} {v : Value} (h : Box w g bits v) : g < w.heap.size := block_lt h
theorem Box.kept {w w' : World} {g : Nat} {bits : Int} {v : Value} (h : Box w g bits v) (k : NotInts w w') : Box w' g bits v := k g _ _ h (by decide)
theorem Box.below {w w' : World} {g : Nat} {bits : Int} {v : Value} (h : Box w g bits v) (k : Below w.heap.size w w') : Box w' g bits v := h.kept (notInts_below k)
theorem Box.c0 {w : World} {g : Nat} {bits : Int} {v : Value} (h : Box w g bits v) : w.cell? ⟨g, 0, none⟩ = some (.int .i64 bits) := by
  unfold Box at h
  simp [World.cell?, h]
theorem Box.c1 {w : World} {g : Nat} {bits : Int} {v : Value} (h : Box w g bits v) : w.cell? ⟨g, 1, none⟩ = some v := by
  unfold Box at h
  simp [World.cell?, h]
theorem markNet_more (A : Option Addr) (c B k : Nat) (bits : Int) (xss : List (List Int)) (us : List Value) (w : World) (hx : OwnII w B (.slice A xss.length c) xss us) (hB : B ≤ w.heap.size) (hm : k + tot xss ≤ 1099511627776) (hm' : xss.length ≤ 1099511627776) :
    Calls Try.prog 35 #[.agg #[.int .i64 bits, .slice A xss.length c], .int .i64 k] w fun e w' => e = .returned (.int .i64 ((k + tot xss : Nat) : Int)) ∧ OwnII w' B (.slice A xss.length c) (mk k xss) us ∧ Below B w w' ∧ Marked us xss.length w w' := by
  have hb : Below B w (w.alloc (.cells #[.int .i64 bits, .slice A xss.length c] 57)) := (Below.refl _ _).alloc hB _
  have hb' := (Below.refl w.heap.size w).alloc (Nat.le_refl _) (.cells #[.int .i64 bits, .slice A xss.length c] 57)
  have HC := Lib.hid (markII_more A c B k xss us _ (hx.below hb') (by simp; omega) hm hm')
  have HB := Lib.hid hb
  have HN := Lib.hid hb'
  clear hb hb' hx
  go_enter Try.func35, Try.ntmps35
  go_wp2_with fail
  refine HC.out.mono ?_
  rintro e w1 ⟨rfl, o1, b1, n1⟩
  have H1 := Lib.hid (And.intro o1 (And.intro (HB.out.trans b1) (show Marked us xss.length w w1 from ⟨(notInts_below HN.out).trans n1.not, fun C hC => (Above.below HN.out).trans (n1.abv C hC) HN.out.size⟩)))
  clear o1 b1 n1
  go_wp2
  go_ret
  exact ⟨rfl, H1.out.1, H1.out.2.1, H1.out.2.2⟩
theorem markNet_any (A : Option Addr) (c B k : Nat) (bits : Int) (xss : List (List Int)) (us : List Value) (w : World) (hx : OwnII w B (.slice A xss.length c) xss us) (hB : B ≤ w.heap.size) (hm : k + tot xss ≤ 1099511627776) (hm' : xss.length ≤ 1099511627776) :
    Calls Try.prog 35 #[.agg #[.int .i64 bits, .slice A xss.length c], .int .i64 k] w fun e w' => e = .returned (.int .i64 ((k + tot xss : Nat) : Int)) ∧ OwnII w' B (.slice A xss.length c) (mk k xss) us ∧ Below B w w' ∧ NotInts w w' :=
  (markNet_more A c B k bits xss us w hx hB hm hm').mono fun e w' h => ⟨h.1, h.2.1, h.2.2.1, h.2.2.2.not⟩
theorem heldNet_yes (A : Option Addr) (c B k : Nat) (bits : Int) (xss : List (List Int)) (w : World) (hx : RdII w B A (mk k xss)) (hB : B ≤ w.heap.size) (hm : k + tot xss ≤ 1099511627776) (hm' : xss.length ≤ 1099511627776) :
    Calls Try.prog 37 #[.agg #[.int .i64 bits, .slice A xss.length c], .int .i64 k] w fun e w' => e = .returned (.int .i64 ((k + tot xss : Nat) : Int)) ∧ Below w.heap.size w w' := by
  have hb' := (Below.refl w.heap.size w).alloc (Nat.le_refl _) (.cells #[.int .i64 bits, .slice A xss.length c] 57)
  have HC := Lib.hid (heldII_yes A c B k xss _ (hx.below hb' hB) hm hm')
  have HB := Lib.hid hb'
  clear hb' hx
  go_enter Try.func37, Try.ntmps37
  go_wp2_with fail
  refine HC.out.mono ?_
  rintro e w1 ⟨rfl, rfl⟩
  go_wp2
  go_ret
  exact ⟨rfl, HB.out⟩
/-- a net made, of these numbers -/
def GNetRet (bits : Int) (ok : Bool) (xss : List (List Int)) (w : World) (e : Ending) (w' : World) : Prop :=
  ∃ A c us, e = .returned (.tuple #[.agg #[.int .i64 bits, .slice A xss.length c], .bool ok]) ∧ OwnII w' w.heap.size (.slice A xss.length c) xss us ∧ Below w.heap.size w w'
theorem GNetRet.of_no {w : World} {e : Ending} {w' : World} (h : NoNet w e w') : GNetRet 0 false [] w e w' := ⟨none, 0, [], h.1, OwnII.nil _ _, h.2⟩
theorem GNetRet.of_rev {n : Nat} {w : World} {e : Ending} {w' : World} (h : RevRet n w e w') : GNetRet n true [revL n, unitL n] w e w' := by
  obtain ⟨g, us, h1, h2, h3⟩ := h
  exact ⟨some ⟨g, 0, none⟩, 2, us, h1, h2, h3⟩
end Go.Proofs.Ytpflbcdbmainiaa.RevNet

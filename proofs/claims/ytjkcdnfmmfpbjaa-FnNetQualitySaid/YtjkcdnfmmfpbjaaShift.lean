/- Points that are shifted, of the program and of the reference. -/
import Derived.Test.YtjkcdnfmmfpbjaaRevLaw
import Derived.Deep.RegionHeld3
import Derived.Deep.AppendLies
namespace Go.Proofs.Ytjkcdnfmmfpbjaa.Shift
open Go.RowKit Go.Proofs.Ytjkcdnfmmfpbjaa Go.Proofs.Ytjkcdnfmmfpbjaa.Base Go.Proofs.Ytjkcdnfmmfpbjaa.Mem Go.Proofs.Ytjkcdnfmmfpbjaa.AllIn Go.Proofs.Ytjkcdnfmmfpbjaa.Pts Go.Proofs.Ytjkcdnfmmfpbjaa.RevNet Go.Proofs.Ytjkcdnfmmfpbjaa.Bits
set_option linter.unusedVariables false
def xorI (x y : Int) : Int := ((x.toNat ^^^ y.toNat : Nat) : Int)
/-- a point shifted, of the first coordinates alone -/
def shRow (xs by_ : List Int) : List Int := (List.range by_.length).map fun d => xorI (xs.getD d 0) (by_.getD d 0)
theorem shRow_len (xs ys : List Int) : (shRow xs ys).length = ys.length := by simp [shRow]
theorem shRow_take (xs ys : List Int) (d : Nat) (h : d < ys.length) : (shRow xs ys).take (d + 1) = (shRow xs ys).take d ++ [xorI (xs.getD d 0) (ys.getD d 0)] := by
  have hl : d < (shRow xs ys).length := by rw [shRow_len]; exact h
  rw [List.take_succ_eq_append_getElem hl]
  simp [shRow]
def shL (xss : List (List Int)) (ys : List Int) : List (List Int) := xss.map fun xs => shRow xs ys
theorem shL_len (xss : List (List Int)) (ys : List Int) : (shL xss ys).length = xss.length := by simp [shL]
theorem shL_take (xss : List (List Int)) (ys : List Int) (k : Nat) (h : k < xss.length) : (shL xss ys).take (k + 1) = (shL xss ys).take k ++ [shRow (xss.getD k []) ys] := by
  have hl : k < (shL xss ys).length := by rw [shL_len]; exact h
  rw [List.take_succ_eq_append_getElem hl]
  simp [shL, List.getD, h]
theorem xor_int {x y : Int} (hx : 0 ≤ x ∧ x < 64) (hy : 0 ≤ y ∧ y < 64) : bits .xor .i64 x y = xorI x y := by
  have h := i64_xor_nat x.toNat y.toNat (by omega) (by omega)
  rw [Int.toNat_of_nonneg hx.1, Int.toNat_of_nonneg hy.1] at h
  exact h
/-- lists of lists of the call's own that grow along given ones -/
def GRel (L : List (List Int)) (w : World) (out i : Value) (wr : World) : Prop :=
  ∃ (k : Nat) (us : List Value), k ≤ L.length ∧ i = .int .i64 (k : Int) ∧ OwnII wr w.heap.size out (L.take k) us ∧ Below w.heap.size w wr
/-- the same for one list -/
def IRel (L : List Int) (w : World) (p i : Value) (wr : World) : Prop :=
  ∃ d : Nat, d ≤ L.length ∧ i = .int .i64 (d : Int) ∧ OwnI wr w.heap.size p (L.take d) ∧ Below w.heap.size w wr
theorem GRel.start (L : List (List Int)) (w : World) : GRel L w (.slice (some ⟨w.heap.size, 0, none⟩) 0 0) (.int .i64 0) (w.alloc (.cells #[] 28)) :=
  ⟨0, [], Nat.zero_le _, rfl, OwnII.lit0 w (Nat.le_refl _) _ rfl, (Below.refl _ _).alloc (Nat.le_refl _) _⟩
theorem IRel.start (L : List Int) (w : World) : IRel L w (.slice (some ⟨w.heap.size, 0, none⟩) 0 0) (.int .i64 0) (w.alloc (.cells #[] 2)) :=
  ⟨0, Nat.zero_le _, rfl, own_lit w (Nat.le_refl _) [] (by simp), (Below.refl _ _).alloc (Nat.le_refl _) _⟩
theorem take_snoc {α : Type} (L : List α) (d : Nat) (z : α) (h : d < L.length) : L.take (d + 1) = L.take d ++ [L.getD d z] := by
  rw [List.take_succ_eq_append_getElem h]; simp [List.getD, h]
theorem IRel.next {L : List Int} {d : Nat} {w wr w1 w2 : World} {v v' : Value} (hd : d < L.length) (hO : OwnI wr w.heap.size v (L.take d)) (hb : Below w.heap.size w wr) (h1 : Below wr.heap.size wr w1)
    (hown : w2.ownsRow w.heap.size 2 1 v' (d + 1) (ints (L.take d) ++ [.int .i64 (L.getD d 0)])) (hg : w1.grownBy w2 v.ownBlock) :
    IRel L w v' (.int .i64 ((d : Int) + 1)) w2 := by
  refine ⟨d + 1, hd, by simp, ?_, hb.trans ((h1.mono hb.size).trans (grown_below hg (fun g he => ?_) (Nat.le_trans hb.size h1.size)))⟩
  · rw [take_snoc L d 0 hd]
    have hl : (L.take d).length = d := by rw [List.length_take]; omega
    exact OwnI_push hO hb.size (by rw [hl]; exact hown)
  · obtain ⟨_, _, h3, _⟩ := ownsRow_block hO he
    exact h3
theorem GRel.next {L : List (List Int)} {k : Nat} {us : List Value} {w wo wr w2 : World} {v v' p : Value} (hk : k < L.length) (hO : OwnII wo w.heap.size v (L.take k) us) (hb : Below w.heap.size w wo)
    (hp : OwnI wr wo.heap.size p (L.getD k [])) (hb2 : Below wo.heap.size wo wr) (hown : w2.ownsRow w.heap.size 28 1 v' (k + 1) (us ++ [p])) (hg : (wr.alloc (.cells #[p] 28)).grownBy w2 v.ownBlock) :
    GRel L w v' (.int .i64 ((k : Int) + 1)) w2 := by
  have h1 : Below wo.heap.size wo (wr.alloc (.cells #[p] 28)) := hb2.alloc hb2.size _
  have hu : (wr.alloc (.cells #[p] 28)).ownsRow wo.heap.size 2 1 p (L.getD k []).length (ints (L.getD k [])) := World.ownsRow.alloc hp _
  have hl : (L.take k).length = k := by rw [List.length_take]; omega
  refine ⟨k + 1, us ++ [p], hk, by simp, ?_, hb.trans ((h1.mono hb.size).trans (grown_below hg (fun g he => ?_) (Nat.le_trans hb.size h1.size)))⟩
  · rw [take_snoc L k [] hk]
    exact hO.push h1 hu (by rw [hl]; exact hown) hg hb.size
  · obtain ⟨_, _, h3, _⟩ := ownsRow_block hO.outer he
    exact h3
/-- lists of the call's own, and whether there are some -/
def RowsRet (R : List (List Int)) (ok : Bool) (w : World) (e : Ending) (w' : World) : Prop := ∃ A c us, e = .returned (.tuple #[.slice A R.length c, .bool ok]) ∧ OwnII w' w.heap.size (.slice A R.length c) R us ∧ Below w.heap.size w w'
/-- points and what shifts them -/
def shB (xss : List (List Int)) (bits : Int) (ys : List Int) : Bool := ptsB xss bits && (ys.length == (xss.getD 0 []).length && allInB ys 0 ((2 : Int) ^ bits.toNat - 1))
theorem row_at {L b d : Nat} {xss : List (List Int)} (h : xss.all (rowB L b) = true) (hd : d < xss.length) : (xss.getD d []).length = L ∧ ∀ j, j < L → 0 ≤ (xss.getD d []).getD j 0 ∧ (xss.getD d []).getD j 0 ≤ (2 : Int) ^ b - 1 := by
  have h1 := all_at [] hd h
  simp only [rowB, Bool.and_eq_true, beq_iff_eq] at h1
  exact ⟨h1.1, fun j hj => AllIn.allInB_true h1.2 j (by omega)⟩
end Go.Proofs.Ytjkcdnfmmfpbjaa.Shift

/- The reversed net, of the program and of the reference. -/
import Derived.Test.YtjajemdeioabkaaDoorRev
import Derived.Maps.AppendAt
import Derived.Test.YtjajemdeioabkaaDoorPoints
namespace Go.Proofs.YtjajemdeioabkaaDoor.RevNet
open Go.RowKit Go.Proofs.YtjajemdeioabkaaDoor Go.Proofs.YtjajemdeioabkaaDoor.Base Go.Proofs.YtjajemdeioabkaaDoor.Mem Go.Proofs.YtjajemdeioabkaaDoor.Pts
set_option linter.unusedVariables false

def unitL (n : Nat) : List Int := (List.range n).map fun i => (2 : Int) ^ i
theorem unitL_len (n : Nat) : (unitL n).length = n := by simp [unitL]
theorem unitL_succ (n : Nat) : unitL (n + 1) = unitL n ++ [(2 : Int) ^ n] := by simp [unitL, List.range_succ]
/-- a number pushed onto a list of the call's own -/
theorem OwnI_push {wr w2 : World} {B : Nat} {v v' : Value} {xs : List Int} {x : Int} (hO : OwnI wr B v xs) (hB : B ≤ wr.heap.size)
    (hown : w2.ownsRow B 2 1 v' (xs.length + 1) (ints xs ++ [.int .i64 x])) : OwnI w2 B v' (xs ++ [x]) := by
  unfold OwnI
  rw [List.length_append, show ints (xs ++ [x]) = ints xs ++ [.int .i64 x] by simp [ints]]
  exact hown
theorem append_below {wr w2 : World} {B : Nat} {v : Value} {xs : List Int} {o : Obj} (hO : OwnI wr B v xs) (hB : B ≤ wr.heap.size) (hg : (wr.alloc o).grownBy w2 v.ownBlock) : Below B wr w2 :=
  ((Below.refl B wr).alloc hB o).trans (grown_below hg (fun g he => by
    obtain ⟨_, _, h3, _⟩ := ownsRow_block hO he
    exact h3) (by simp; omega))
def UnitRel (n : Nat) (w : World) (out i : Value) (wr : World) : Prop := ∃ k : Nat, k ≤ n ∧ i = .int .i64 (k : Int) ∧ OwnI wr w.heap.size out (unitL k) ∧ Below w.heap.size w wr
theorem UnitRel.next {n k : Nat} {w wr w2 : World} {v v' : Value} (hk : k < n) (hO : OwnI wr w.heap.size v (unitL k)) (hb : Below w.heap.size w wr)
    (hown : w2.ownsRow w.heap.size 2 1 v' (k + 1) (ints (unitL k) ++ [.int .i64 ((2 : Int) ^ k)])) (hg : (wr.alloc (.cells #[.int .i64 ((2 : Int) ^ k)] 2)).grownBy w2 v.ownBlock) :
    UnitRel n w v' (.int .i64 ((k : Int) + 1)) w2 := by
  refine ⟨k + 1, hk, by simp, ?_, hb.trans (append_below hO hb.size hg)⟩
  rw [unitL_succ]
  exact OwnI_push hO hb.size (by rw [unitL_len]; exact hown)
def UnitRet (n : Nat) (w : World) (e : Ending) (w' : World) : Prop := ∃ A c, e = .returned (.slice A n c) ∧ OwnI w' w.heap.size (.slice A n c) (unitL n) ∧ Below w.heap.size w w'
/-- two lists of the call's own in a new list of them -/
theorem OwnII.two {w : World} {B : Nat} {u1 u2 : Value} {ys1 ys2 : List Int} (h1 : OwnI w B u1 ys1) (h2 : OwnI w B u2 ys2) (hB : B ≤ w.heap.size) (ha : ∀ g, u1.ownBlock = some g → u2.ownBlock ≠ some g) :
    OwnII (w.alloc (.cells #[u1, u2] 77)) B (.slice (some ⟨w.heap.size, 0, none⟩) 2 2) [ys1, ys2] [u1, u2] := by
  refine ⟨rfl, ?_, fun i hi => ?_, fun i j g hij hj hg => ?_⟩
  · exact World.ownsRow_lit (e := 77) (size := 1) (base := B) w #[u1, u2] 2 hB (by simp [maxLen]) rfl
  · match i, hi with
    | 0, _ => exact World.ownsRow.alloc h1 _
    | 1, _ => exact World.ownsRow.alloc h2 _
  · have hj' : j < 2 := hj
    obtain rfl : i = 0 := by omega
    obtain rfl : j = 1 := by omega
    exact ha g hg
theorem OwnII.two_set {w : World} {B b : Nat} {u1 u2 x y : Value} {ys1 ys2 : List Int} (h1 : OwnI w B u1 ys1) (h2 : OwnI w B u2 ys2) (hB : B ≤ w.heap.size) (ha : ∀ g, u1.ownBlock = some g → u2.ownBlock ≠ some g) (hb : b < B) :
    OwnII (((w.setCell ⟨b, 0, none⟩ x).setCell ⟨b, 1, none⟩ y).alloc (.cells #[u1, u2] 77)) B (.slice (some ⟨w.heap.size, 0, none⟩) 2 2) [ys1, ys2] [u1, u2] := by
  have hz : ((w.setCell ⟨b, 0, none⟩ x).setCell ⟨b, 1, none⟩ y).heap.size = w.heap.size := by simp
  have := OwnII.two (w := (w.setCell ⟨b, 0, none⟩ x).setCell ⟨b, 1, none⟩ y) (ownsRow_setCell_below (ownsRow_setCell_below h1 (a := ⟨b, 0, none⟩) hb x) (a := ⟨b, 1, none⟩) hb y) (ownsRow_setCell_below (ownsRow_setCell_below h2 (a := ⟨b, 0, none⟩) hb x) (a := ⟨b, 1, none⟩) hb y) (by rw [hz]; exact hB) ha
  rw [hz] at this
  exact this
/-- the rows of the first matrix -/
def revL (n : Nat) : List Int := (List.range n).map fun i => (2 : Int) ^ (n - 1 - i)
theorem unitL_rev (n : Nat) : (unitL n).reverse = revL n := by
  refine getD_ext 0 (by simp [unitL, revL]) fun i hi => ?_
  have hn : i < n := by simpa [unitL] using hi
  have h1 : (unitL n).reverse.getD i 0 = (unitL n).getD (n - 1 - i) 0 := by
    have := List.getElem?_reverse (l := unitL n) (i := i) (by rw [unitL_len]; exact hn)
    rw [List.getD, List.getD, this, unitL_len]
  rw [h1]
  simp [unitL, revL, hn, List.getD, show n - 1 - i < n by omega]
def RevRet (n : Nat) (w : World) (e : Ending) (w' : World) : Prop :=
  ∃ g us, e = .returned (.tuple #[.agg #[.int .i64 (n : Int), .slice (some ⟨g, 0, none⟩) 2 2], .bool true]) ∧ OwnII w' w.heap.size (.slice (some ⟨g, 0, none⟩) 2 2) [revL n, unitL n] us ∧ Below w.heap.size w w'
/-! ### The reference's net -/
def RevRel (n : Nat) (w : World) (b : Nat) (v1 v2 i : Value) (wr : World) : Prop :=
  ∃ k : Nat, k ≤ n ∧ i = .int .i64 (k : Int) ∧ OwnI wr (b + 1) v1 ((revL n).take k) ∧ OwnI wr (b + 1) v2 (unitL k) ∧ (∀ g, v1.ownBlock = some g → v2.ownBlock ≠ some g) ∧ Below (b + 1) w wr
theorem revL_take (n k : Nat) (h : k < n) : (revL n).take (k + 1) = (revL n).take k ++ [(2 : Int) ^ (n - 1 - k)] := by
  have hl : k < (revL n).length := by simp [revL]; exact h
  rw [List.take_succ_eq_append_getElem hl]
  simp [revL]
/-- what an append leaves of a list beside it -/
theorem beside {wr w2 : World} {B : Nat} {v u : Value} {xs ys : List Int} {o : Obj} (hO : OwnI wr B v xs) (hu : OwnI wr B u ys) (ha : ∀ g, v.ownBlock = some g → u.ownBlock ≠ some g) (hg : (wr.alloc o).grownBy w2 v.ownBlock) : OwnI w2 B u ys := by
  refine World.ownsRow.kept (World.ownsRow.alloc hu o) hg ?_
  rcases hv : u.ownBlock with _ | g
  · exact .inl rfl
  · exact .inr fun e => ha g e.symm hv
theorem RevRel.next {n k b : Nat} {w wr w2 w4 : World} {v1 v2 u1 u2 : Value} {o o' : Obj} (hk : k < n) (hB : b + 1 ≤ w.heap.size)
    (h1 : OwnI wr (b + 1) v1 ((revL n).take k)) (h2 : OwnI wr (b + 1) v2 (unitL k)) (ha : ∀ g, v1.ownBlock = some g → v2.ownBlock ≠ some g) (hb : Below (b + 1) w wr)
    (n1 : OwnI w2 (b + 1) u1 ((revL n).take (k + 1))) (g1 : (wr.alloc o).grownBy w2 v1.ownBlock) (e1 : u1.ownBlock = v1.ownBlock ∨ u1.ownBlock = some (wr.heap.size + 1))
    (n2 : OwnI w4 (b + 1) u2 (unitL (k + 1))) (g2 : (w2.alloc o').grownBy w4 v2.ownBlock) (e2 : u2.ownBlock = v2.ownBlock ∨ u2.ownBlock = some (w2.heap.size + 1)) :
    RevRel n w b u1 u2 (.int .i64 ((k : Int) + 1)) w4 := by
  have hb1 : Below (b + 1) wr w2 := append_below h1 (Nat.le_trans hB hb.size) g1
  have hb2 : Below (b + 1) w w2 := hb.trans hb1
  have hv2 : OwnI w2 (b + 1) v2 (unitL k) := beside h1 h2 ha g1
  have hs : wr.heap.size + 1 ≤ w2.heap.size := by
    have := g1.size
    simpa using this
  have hu1 : ∀ g, v2.ownBlock = some g → u1.ownBlock ≠ some g := fun g hg he => by
    rcases e1 with e | e
    · exact ha g (e.symm.trans he) hg
    · obtain ⟨_, _, _, q⟩ := ownsRow_block h2 hg
      rw [e] at he
      injection he with he
      omega
  refine ⟨k + 1, hk, by simp, beside hv2 n1 hu1 g2, n2, fun g he hg => ?_, hb2.trans (append_below hv2 (Nat.le_trans hB hb2.size) g2)⟩
  rcases e2 with e | e
  · exact hu1 g (e.symm.trans hg) he
  · obtain ⟨_, _, _, q⟩ := ownsRow_block n1 he
    rw [e] at hg
    injection hg with hg
    omega
theorem revL_len (n : Nat) : (revL n).length = n := by simp [revL]
end Go.Proofs.YtjajemdeioabkaaDoor.RevNet

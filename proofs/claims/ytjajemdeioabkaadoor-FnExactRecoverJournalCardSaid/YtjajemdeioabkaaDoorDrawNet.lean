/- A net that is drawn is valid. -/
import Derived.Test.YtjajemdeioabkaaDoorSrc
import Derived.Test.YtjajemdeioabkaaDoorRevLaw
namespace Go.Proofs.YtjajemdeioabkaaDoor.DrawN
open Go.RowKit Go.Proofs.YtjajemdeioabkaaDoor Go.Proofs.YtjajemdeioabkaaDoor.Base Go.Proofs.YtjajemdeioabkaaDoor.Mem Go.Proofs.YtjajemdeioabkaaDoor.Pts Go.Proofs.YtjajemdeioabkaaDoor.NetV Go.Proofs.YtjajemdeioabkaaDoor.RevNet Go.Proofs.YtjajemdeioabkaaDoor.Bits Go.Proofs.YtjajemdeioabkaaDoor.Src
set_option linter.unusedVariables false
theorem below_src {B p : Nat} {w w' : World} (hg : w.grownBy w' (some p)) (hB : B ≤ p) (hs : p < w.heap.size) : Below B w w' := grown_below hg (fun g e => by cases e; exact hB) (by omega)
theorem or_low {r m b : Nat} (hr : r < 64) (hm : m ≤ 5) (hb : m < b) : bits .or .i64 ((2 : Int) ^ m) (bits .and .i64 (r : Int) ((2 : Int) ^ m - 1)) = ((2 ^ m ||| (r &&& (2 ^ m - 1)) : Nat) : Int) ∧ 2 ^ m ||| (r &&& (2 ^ m - 1)) < 2 ^ b := by
  have h1 : 2 ^ m ≤ 2 ^ 5 := Nat.pow_le_pow_right (by decide) hm
  have h2 : 0 < 2 ^ m := Nat.two_pow_pos m
  have h3 : r &&& (2 ^ m - 1) ≤ 2 ^ m - 1 := Nat.and_le_right
  have e : (2 : Int) ^ m - 1 = ((2 ^ m - 1 : Nat) : Int) := by rw [Int.ofNat_sub (by omega)]; simp
  have e2 : (2 : Int) ^ m = ((2 ^ m : Nat) : Int) := by simp
  refine ⟨?_, ?_⟩
  · rw [e, i64_and_nat _ _ (by omega) (by omega), e2, i64_or_nat _ _ (by omega) (by omega)]
  · have h4 : 2 ^ (m + 1) ≤ 2 ^ b := Nat.pow_le_pow_right (by decide) hb
    have h5 : 2 ^ (m + 1) = 2 ^ m * 2 := Nat.pow_succ 2 m
    exact Nat.lt_of_lt_of_le (Nat.or_lt_two_pow (show 2 ^ m < 2 ^ (m + 1) by omega) (show r &&& (2 ^ m - 1) < 2 ^ (m + 1) by omega)) h4
/-- blocks of w other than p are as they were -/
structure Beside (p : Nat) (w w' : World) : Prop where
  size : w.heap.size ≤ w'.heap.size
  same : ∀ q, q < w.heap.size → q ≠ p → w'.heap[q]? = w.heap[q]?
theorem Beside.refl (p : Nat) (w : World) : Beside p w w := ⟨Nat.le_refl _, fun _ _ _ => rfl⟩
theorem Beside.trans {p : Nat} {a b c : World} (h : Beside p a b) (k : Beside p b c) : Beside p a c :=
  ⟨Nat.le_trans h.size k.size, fun q h1 h2 => (k.same q (Nat.lt_of_lt_of_le h1 h.size) h2).trans (h.same q h1 h2)⟩
theorem Beside.grown {p : Nat} {w w' : World} (h : w.grownBy w' (some p)) : Beside p w w' := ⟨h.size, fun q h1 h2 => h.block q h1 fun e => h2 (Option.some.inj e)⟩
theorem Beside.below {p : Nat} {w w' : World} (h : Below w.heap.size w w') : Beside p w w' := ⟨h.size, fun q h1 _ => h.block q h1⟩
theorem ownsRow_beside {w w' : World} {B p : Nat} {e : TypeId} {size n : Nat} {v : Value} {xs : List Value} (h : w.ownsRow B e size v n xs) (hp : p < B) (hb : Beside p w w') : w'.ownsRow B e size v n xs :=
  ownsRow_above h fun g h1 h2 => hb.same g h2 (by omega)
theorem OwnII.beside {w w' : World} {B p : Nat} {v : Value} {xss : List (List Int)} {us : List Value} (h : OwnII w B v xss us) (hp : p < B) (hb : Beside p w w') : OwnII w' B v xss us :=
  h.above fun g h1 h2 => hb.same g h2 (by omega)
/-- a list pushed onto lists of the call's own, of a younger block -/
theorem OwnII.push2 {w1 w2 : World} {B C : Nat} {v v' u : Value} {xss : List (List Int)} {us : List Value} {ys : List Int} (h : OwnII w1 B v xss us) (hf : ∀ i g, i < xss.length → (us.getD i undef).ownBlock = some g → g < C)
    (hu : w1.ownsRow C 2 1 u ys.length (ints ys)) (hBC : B ≤ C) (hown : w2.ownsRow B 77 1 v' (xss.length + 1) (us ++ [u])) (hg : w1.grownBy w2 v.ownBlock) :
    OwnII w2 B v' (xss ++ [ys]) (us ++ [u]) := by
  refine ⟨by simp [h.len], by rw [List.length_append]; exact hown, fun i hi => ?_, fun i j g hij hj hg1 hg2 => ?_⟩
  · rw [List.length_append] at hi
    rcases Nat.lt_or_ge i xss.length with hlt | hge
    · have hl : i < us.length := by rw [h.len]; exact hlt
      rw [show (us ++ [u]).getD i undef = us.getD i undef by simp [List.getD, List.getElem?_append_left hl],
        show (xss ++ [ys]).getD i [] = xss.getD i [] by simp [List.getD, List.getElem?_append_left hlt]]
      exact World.ownsRow.kept (h.inner i hlt) hg (own_ne (h.inner i hlt) h.outer (by decide))
    · obtain rfl : i = xss.length := by simp at hi; omega
      rw [show (us ++ [u]).getD xss.length undef = u by simp [List.getD, ← h.len],
        show (xss ++ [ys]).getD xss.length [] = ys by simp [List.getD]]
      exact World.ownsRow.kept (ownsRow_base hu hBC) hg (own_ne hu h.outer (by decide))
  · rw [List.length_append] at hj
    have hlt : i < xss.length := by simp at hj; omega
    have hl : i < us.length := by rw [h.len]; exact hlt
    rw [show (us ++ [u]).getD i undef = us.getD i undef by simp [List.getD, List.getElem?_append_left hl]] at hg1
    rcases Nat.lt_or_ge j xss.length with hj1 | hge
    · have hlj : j < us.length := by rw [h.len]; exact hj1
      rw [show (us ++ [u]).getD j undef = us.getD j undef by simp [List.getD, List.getElem?_append_left hlj]] at hg2
      exact h.apart i j g hij hj1 hg1 hg2
    · obtain rfl : j = xss.length := by simp at hj; omega
      rw [show (us ++ [u]).getD xss.length undef = u by simp [List.getD, ← h.len]] at hg2
      have b1 := hf i g hlt hg1
      obtain ⟨_, _, b2, _⟩ := ownsRow_block hu hg2
      omega
/-- the inner loop: the rows so far -/
def ERel (p B0 K b : Nat) (w : World) (v i : Value) (wr : World) : Prop :=
  ∃ (k : Nat) (xs : List Int), k ≤ b ∧ i = .int .i64 (k : Int) ∧ xs.length = k ∧ Hid (∀ d, d < k → 0 ≤ xs.getD d 0 ∧ xs.getD d 0 ≤ (2 : Int) ^ b - 1) ∧
    OwnI wr w.heap.size v xs ∧ Src wr p (K + k * 2) ∧ Beside p w wr ∧ Below B0 w wr
theorem ERel.next {p B0 K b j X : Nat} {xs : List Int} {w wp w2 w3 : World} {v v' : Value} {o : Obj} (hB : B0 ≤ p) (hp : p < w.heap.size) (hj : j < b) (hxl : xs.length = j) (hin : ∀ d, d < j → 0 ≤ xs.getD d 0 ∧ xs.getD d 0 ≤ (2 : Int) ^ b - 1)
    (hO : OwnI wp w.heap.size v xs) (hS : Src w2 p (K + j * 2 + 2)) (hg : wp.grownBy w2 (some p)) (hbs : Beside p w wp) (hbl : Below B0 w wp) (hX : X < 2 ^ b)
    (hown : w3.ownsRow w.heap.size 2 1 v' (j + 1) (ints xs ++ [.int .i64 (X : Nat)])) (hg3 : (w2.alloc o).grownBy w3 v.ownBlock) :
    ERel p B0 K b w v' (.int .i64 ((j : Int) + 1)) w3 := by
  have hB2 : Beside p w (w2.alloc o) := (hbs.trans (Beside.grown hg)).trans (Beside.below ((Below.refl _ _).alloc (Nat.le_refl _) o))
  have hrow : ∀ g, v.ownBlock = some g → w.heap.size ≤ g := fun g he => by
    obtain ⟨_, _, h3, _⟩ := ownsRow_block hO he
    exact h3
  have hw2 : w.heap.size ≤ w2.heap.size := Nat.le_trans hbs.size hg.size
  refine ⟨j + 1, xs ++ [((X : Nat) : Int)], hj, by simp, by simp [hxl], Lib.hid fun d hd => ?_, ?_, ?_, ⟨Nat.le_trans hB2.size hg3.size, fun q h1 h2 => ?_⟩, ?_⟩
  · rcases Nat.lt_or_ge d j with h | h
    · rw [show (xs ++ [((X : Nat) : Int)]).getD d 0 = xs.getD d 0 by simp [List.getD, List.getElem?_append_left (show d < xs.length by omega)]]
      exact hin d h
    · obtain rfl : d = j := by omega
      rw [show (xs ++ [((X : Nat) : Int)]).getD d 0 = X by simp [List.getD, ← hxl]]
      have : ((2 ^ b : Nat) : Int) = (2 : Int) ^ b := by simp
      omega
  · unfold OwnI
    rw [List.length_append, hxl, show ints (xs ++ [((X : Nat) : Int)]) = ints xs ++ [.int .i64 ((X : Nat) : Int)] by simp [ints]]
    exact hown
  · have h1 := hS.below ((Below.refl _ _).alloc (Nat.le_refl _) o)
    have h2 := h1.kept hg3 (fun g he => by have := hrow g he; omega)
    exact h2.more (by omega)
  · refine (hg3.block q (Nat.lt_of_lt_of_le h1 hB2.size) fun e => ?_).trans (hB2.same q h1 h2)
    have := hrow q e.symm
    omega
  · have h1 : Below B0 w2 (w2.alloc o) := (Below.refl _ _).alloc (by omega) o
    exact ((hbl.trans (below_src hg hB (by have := hbs.size; omega))).trans h1).trans (grown_below hg3 (fun g he => by have := hrow g he; omega) (by simp; omega))
/-- a net that is valid, drawn -/
def NetRet (p B0 K b sides : Nat) (w : World) (e : Ending) (w' : World) : Prop :=
  ∃ (A : Option Addr) (c : Nat) (xss : List (List Int)) (us : List Value), e = .returned (.agg #[.int .i64 (b : Int), .slice A xss.length c]) ∧ xss.length = sides ∧ (∀ d, d < sides → rowB b b (xss.getD d []) = true) ∧
    OwnII w' w.heap.size (.slice A xss.length c) xss us ∧ Src w' p (K + sides * (2 * b + 2)) ∧ Below B0 w w'
end Go.Proofs.YtjajemdeioabkaaDoor.DrawN

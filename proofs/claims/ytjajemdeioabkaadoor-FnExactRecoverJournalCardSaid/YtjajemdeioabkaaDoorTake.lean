/- The bits of a stream: steps, take, TakeBits, and the law. -/
import Derived.Test.YtjajemdeioabkaaDoorRBits
import Derived.Test.YtjajemdeioabkaaDoorStream
import Derived.Test.YtjajemdeioabkaaDoorStrCyc
import Derived.Laws.IdiomStrings
import Derived.Lib.BufferRead
namespace Go.Proofs.YtjajemdeioabkaaDoor.Take
open Go.RowKit Go.Proofs.YtjajemdeioabkaaDoor Go.Proofs.YtjajemdeioabkaaDoor.Base Go.Proofs.YtjajemdeioabkaaDoor.Mem Go.Proofs.YtjajemdeioabkaaDoor.Reg Go.Proofs.YtjajemdeioabkaaDoor.Bld Go.Proofs.YtjajemdeioabkaaDoor.Str Go.Proofs.YtjajemdeioabkaaDoor.RBits
set_option linter.unusedVariables false
def cbit (m f a x : Nat) : Nat := if m ≤ 2 * Cong.stepN m f a x then 1 else 0
theorem cbit_lt (m f a x : Nat) : cbit m f a x < 2 := by unfold cbit; split <;> omega
def StepRet (K W T m f a : Int) (nx bt x : Nat) (w : World) (e : Ending) (w' : World) : Prop := e = .returned (.tuple #[.agg #[.int .i64 K, .int .i64 W, .int .i64 T, .int .i64 m, .int .i64 f, .int .i64 a, .int .i64 (nx : Int)], .int .i64 (bt : Int)]) ∧ Below w.heap.size w w'
/-- the bytes of n bits -/
def outS (nx bt : Nat → Nat) (x : Nat) : Nat → List UInt8
  | 0 => []
  | n + 1 => outS nx bt x n ++ [UInt8.ofNat (48 + bt (CycM.iter nx x n))]
theorem outS_len (nx bt : Nat → Nat) (x : Nat) : ∀ n, (outS nx bt x n).length = n
  | 0 => rfl
  | n + 1 => by simp [outS, outS_len nx bt x n]
theorem outS_reg (W T x : Nat) : ∀ n, outR W T x n = outS (nextR W T) (· % 2) x n
  | 0 => rfl
  | n + 1 => by rw [outR, outS, outS_reg W T x n]
/-- a stream in a block of its own -/
def SBox (w : World) (b : Nat) (K W T m f a s : Int) : Prop := w.heap[b]? = some (.cells #[.int .i64 K, .int .i64 W, .int .i64 T, .int .i64 m, .int .i64 f, .int .i64 a, .int .i64 s] 33 (0, 0))
theorem SBox.new (w : World) (K W T m f a s : Int) : SBox (w.alloc (.cells #[.int .i64 K, .int .i64 W, .int .i64 T, .int .i64 m, .int .i64 f, .int .i64 a, .int .i64 s] 33)) w.heap.size K W T m f a s := by
  unfold SBox
  show (w.heap.push _)[w.heap.size]? = _
  simp
section
variable {w w' : World} {b : Nat} {K W T m f a s : Int}
theorem SBox.lt (h : SBox w b K W T m f a s) : b < w.heap.size := RevNet.block_lt h
theorem SBox.c0 (h : SBox w b K W T m f a s) : w.cell? ⟨b, 0, none⟩ = some (.int .i64 K) := by rw [Lib.cell_of_heap h]; rfl
theorem SBox.c1 (h : SBox w b K W T m f a s) : w.cell? ⟨b, 1, none⟩ = some (.int .i64 W) := by rw [Lib.cell_of_heap h]; rfl
theorem SBox.c2 (h : SBox w b K W T m f a s) : w.cell? ⟨b, 2, none⟩ = some (.int .i64 T) := by rw [Lib.cell_of_heap h]; rfl
theorem SBox.c3 (h : SBox w b K W T m f a s) : w.cell? ⟨b, 3, none⟩ = some (.int .i64 m) := by rw [Lib.cell_of_heap h]; rfl
theorem SBox.c4 (h : SBox w b K W T m f a s) : w.cell? ⟨b, 4, none⟩ = some (.int .i64 f) := by rw [Lib.cell_of_heap h]; rfl
theorem SBox.c5 (h : SBox w b K W T m f a s) : w.cell? ⟨b, 5, none⟩ = some (.int .i64 a) := by rw [Lib.cell_of_heap h]; rfl
theorem SBox.c6 (h : SBox w b K W T m f a s) : w.cell? ⟨b, 6, none⟩ = some (.int .i64 s) := by rw [Lib.cell_of_heap h]; rfl
theorem SBox.frz (h : SBox w b K W T m f a s) (i : Nat) : w.frozen? ⟨b, i, none⟩ = false := Lib.frozen_of_heap h i
theorem SBox.below {B : Nat} (h : SBox w b K W T m f a s) (hb : Below B w w') (hB : b < B) : SBox w' b K W T m f a s := (hb.block b hB).trans h
theorem SBox.kept {row : Option Nat} (h : SBox w b K W T m f a s) (hg : w.grownBy w' row) (hne : row ≠ some b) : SBox w' b K W T m f a s := (hg.block b h.lt fun e => hne e.symm).trans h
/-- all cells of a stream laid anew -/
def set7 (w : World) (b : Nat) (K W T m f a s : Int) : World :=
  ((((((w.setCell ⟨b, 0, none⟩ (.int .i64 K)).setCell ⟨b, 1, none⟩ (.int .i64 W)).setCell ⟨b, 2, none⟩ (.int .i64 T)).setCell ⟨b, 3, none⟩ (.int .i64 m)).setCell ⟨b, 4, none⟩ (.int .i64 f)).setCell ⟨b, 5, none⟩ (.int .i64 a)).setCell ⟨b, 6, none⟩ (.int .i64 s)
theorem SBox.set6 (h : SBox w b K W T m f a s) (s' : Int) : SBox (w.setCell ⟨b, 6, none⟩ (.int .i64 s')) b K W T m f a s' := by
  unfold SBox at *
  simp [World.setCell, Array.getElem?_modify, h]
theorem SBox.set7 (h : SBox w b K W T m f a s) (K' W' T' m' f' a' s' : Int) : SBox (set7 w b K' W' T' m' f' a' s') b K' W' T' m' f' a' s' := by
  unfold SBox at *
  unfold Take.set7
  simp [World.setCell, Array.getElem?_modify, h]
theorem grown_set7 (w : World) (b : Nat) (K W T m f a s : Int) : w.grownBy (set7 w b K W T m f a s) (some b) := by
  unfold set7
  exact grown_trans (grown_trans (grown_trans (grown_trans (grown_trans (grown_trans (Src.grown_setCell _ _ _) (Src.grown_setCell _ _ _)) (Src.grown_setCell _ _ _)) (Src.grown_setCell _ _ _)) (Src.grown_setCell _ _ _)) (Src.grown_setCell _ _ _)) (Src.grown_setCell _ _ _)
end
def TakeRet (K W T m f a : Int) (nx bt : Nat → Nat) (x n : Nat) (w : World) (e : Ending) (w' : World) : Prop :=
  e = .returned (.tuple #[.string ⟨(outS nx bt x n).toArray⟩, .agg #[.int .i64 K, .int .i64 W, .int .i64 T, .int .i64 m, .int .i64 f, .int .i64 a, .int .i64 ((CycM.iter nx x n : Nat) : Int)]]) ∧ Below w.heap.size w w'
theorem take_push {w w1 w3 : World} {v v' : Value} {k B : Nat} {xs : List Value} {c K W T m f a y y' : Int} (hs : SBox w1 B K W T m f a y) (hr : SBox w1 (B + 1) 0 0 0 0 0 0 0) (ho : w1.ownsRow (B + 2) 5 1 v k xs) (hb : Below B w w1)
    (hg : ((w1.alloc (.cells #[.int .i64 K, .int .i64 W, .int .i64 T, .int .i64 m, .int .i64 f, .int .i64 a, .int .i64 y'] 33)).alloc (.cells #[.int .u8 c] 5)).grownBy w3 v.ownBlock) (hown : w3.ownsRow (B + 2) 5 1 v' (k + 1) (xs ++ [.int .u8 c])) :
    SBox w3 w1.heap.size K W T m f a y' ∧ SBox w3 B K W T m f a y ∧ SBox (set7 w3 B K W T m f a y') B K W T m f a y' ∧ SBox (set7 w3 B K W T m f a y') (B + 1) 0 0 0 0 0 0 0 ∧ (set7 w3 B K W T m f a y').ownsRow (B + 2) 5 1 v' (k + 1) (xs ++ [.int .u8 c]) ∧ Below B w (set7 w3 B K W T m f a y') := by
  have hrow : ∀ g, v.ownBlock = some g → B + 2 ≤ g ∧ g < w1.heap.size := fun g hg => by
    obtain ⟨_, _, h1, h2⟩ := ownsRow_block ho hg
    exact ⟨h1, h2⟩
  have hlt := hr.lt
  have ba : Below w1.heap.size w1 ((w1.alloc (.cells #[.int .i64 K, .int .i64 W, .int .i64 T, .int .i64 m, .int .i64 f, .int .i64 a, .int .i64 y'] 33)).alloc (.cells #[.int .u8 c] 5)) := ((Below.refl _ _).alloc (Nat.le_refl _) _).alloc (by simp) _
  have n0 := (SBox.new w1 K W T m f a y').below (B := w1.heap.size + 1) (((Below.refl _ _).alloc (by simp) (.cells #[.int .u8 c] 5))) (Nat.lt_succ_self _)
  have n1 := n0.kept hg (fun e => by have := hrow _ e; omega)
  have n2 := (hs.below ba (by omega)).kept hg (fun e => by have := hrow _ e; omega)
  have n3 := (hr.below ba (by omega)).kept hg (fun e => by have := hrow _ e; omega)
  have gs := grown_set7 w3 B K W T m f a y'
  refine ⟨n1, n2, n2.set7 _ _ _ _ _ _ _, n3.kept gs (by simp), World.ownsRow.kept hown gs (.inr fun e => ?_), ?_⟩
  · obtain ⟨_, _, h1, _⟩ := ownsRow_block hown e
    omega
  · have b3 : Below B w w3 := (hb.trans (ba.mono (by omega))).trans (grown_below hg (fun g e => by have := (hrow g e).1; omega) (by simp; omega))
    exact b3.trans (grown_below gs (fun g e => by cases e; exact Nat.le_refl _) (by have := n2.lt; omega))
theorem conv_own {w : World} {B g n cap : Nat} {l : List UInt8} (h : w.ownsRow B 5 1 (.slice (some ⟨g, 0, none⟩) n cap) n (Lib.byteCells l)) (hl : l.length = n) :
    (convert 54 9 (.slice (some ⟨g, 0, none⟩) n cap)).run Tryd.prog w = .ok (.string ⟨l.toArray⟩) w := by
  subst hl
  refine run_convert_bytes_back w 54 9 5 ⟨g, 0, none⟩ cap l Tryd.underlying54 Tryd.underlying5 Tryd.underlying9 ?_
  intro j hj
  have := h.cells (g := g) rfl j (.int .u8 (l[j].toNat : Int)) (by simp [Lib.byteCells, hj])
  simpa [Addr.add] using this
theorem conv_any {w : World} {B n : Nat} {v : Value} {l : List UInt8} (h : w.ownsRow B 5 1 v n (Lib.byteCells l)) (hl : l.length = n) :
    (convert 54 9 v).run Tryd.prog w = .ok (.string ⟨l.toArray⟩) w := by
  rcases h.2 with ⟨rfl, h0⟩ | ⟨g, cap, cur, rfl, _⟩
  · obtain rfl : l = [] := List.eq_nil_of_length_eq_zero (by omega)
    exact Lib.run_convert_nil_bytes w 54 9 5 0 Tryd.underlying54 Tryd.underlying5 Tryd.underlying9
  · exact conv_own h hl
def takeL (K W T m f a s c : Int) : List UInt8 := if K = 0 then outS (nextR W.toNat T.toNat) (· % 2) s.toNat c.toNat else outS (Cong.stepN m.toNat f.toNat a.toNat) (cbit m.toNat f.toNat a.toNat) s.toNat c.toNat
def takeX (K W T m f a s c : Int) : Int := if K = 0 then (CycM.iter (nextR W.toNat T.toNat) s.toNat c.toNat : Nat) else (CycM.iter (Cong.stepN m.toNat f.toNat a.toNat) s.toNat c.toNat : Nat)
def TakeR (K W T m f a s c : Int) (w : World) (e : Ending) (w' : World) : Prop := e = .returned (.tuple #[.string ⟨(takeL K W T m f a s c).toArray⟩, .agg #[.int .i64 K, .int .i64 W, .int .i64 T, .int .i64 m, .int .i64 f, .int .i64 a, .int .i64 (takeX K W T m f a s c)]]) ∧ Below w.heap.size w w'
theorem nats {K W T m f a s c : Int} (hB : streamB K W T m f a s = true) (hc : inR c 0 400 = true) : ∃ X N : Nat, s = X ∧ c = N ∧ N ≤ 400 ∧
    ((K = 0 ∧ ∃ V A : Nat, W = V ∧ T = A ∧ V ≤ 16 ∧ A < 2 ^ V ∧ X < 2 ^ V) ∨ (K = 1 ∧ ∃ M F A : Nat, m = M ∧ f = F ∧ a = A ∧ 2 ≤ M ∧ M ≤ 100000 ∧ F < M ∧ A < M ∧ X < M)) := by
  have h7 := inR_true hc
  rcases streamB_true hB with ⟨rfl, hR⟩ | ⟨rfl, hC⟩
  · obtain ⟨h1, h2, h3, h4, h5, h6⟩ := Reg.bothR_true hR
    have ep : ((2 ^ W.toNat : Nat) : Int) = (2 : Int) ^ W.toNat := by simp
    exact ⟨s.toNat, c.toNat, by omega, by omega, by omega, .inl ⟨rfl, W.toNat, T.toNat, by omega, by omega, by omega, by omega, by omega⟩⟩
  · obtain ⟨h1, h2, h3, h4, h5, h6, h7', h8⟩ := Cong.bothB_true hC
    exact ⟨s.toNat, c.toNat, by omega, by omega, by omega, .inr ⟨rfl, m.toNat, f.toNat, a.toNat, by omega, by omega, by omega, by omega, by omega, by omega, by omega, by omega⟩⟩
theorem push_plain {w w2 w3 : World} {v : Value} {k B : Nat} {xs : List Value} {c K W T m f a y : Int} (hs : SBox w2 B K W T m f a y) (hr : SBox w2 (B + 1) 0 0 0 0 0 0 0) (ho : w2.ownsRow (B + 2) 5 1 v k xs) (hb : Below B w w2)
    (hg : (w2.alloc (.cells #[.int .u8 c] 5)).grownBy w3 v.ownBlock) :
    SBox w3 B K W T m f a y ∧ SBox w3 (B + 1) 0 0 0 0 0 0 0 ∧ Below B w w3 := by
  have hrow : ∀ g, v.ownBlock = some g → B + 2 ≤ g ∧ g < w2.heap.size := fun g hg => by
    obtain ⟨_, _, h1, h2⟩ := ownsRow_block ho hg
    exact ⟨h1, h2⟩
  have hlt := hr.lt
  have ba : Below w2.heap.size w2 (w2.alloc (.cells #[.int .u8 c] 5)) := (Below.refl _ _).alloc (Nat.le_refl _) _
  have n2 := (hs.below ba (by omega)).kept hg (fun e => by have := hrow _ e; omega)
  have n3 := (hr.below ba (by omega)).kept hg (fun e => by have := hrow _ e; omega)
  exact ⟨n2, n3, (hb.trans (ba.mono (by omega))).trans (grown_below hg (fun g e => by have := (hrow g e).1; omega) (by simp; omega))⟩
end Go.Proofs.YtjajemdeioabkaaDoor.Take
